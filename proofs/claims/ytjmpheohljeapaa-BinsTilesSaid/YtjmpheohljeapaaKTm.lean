/-
  The machine K's temporaries, single operations, and regions in the order of their text.
-/
import Derived.Test.YtjmpheohljeapaaKComp
namespace Go.K
open Go Go.Abs
variable {P : Program} {E : Env}

theorem evsK_map (t : KTm) : ∀ xs, evsK t xs = xs.map (evK t)
  | [] => rfl
  | x :: xs => by rw [evsK, evsK_map t xs]; rfl
structure TKR (P : Program) (E : Env) (ρ : Ren) (t : KTm) (N : Nat) (a : Act) : Prop where
  size : a.tmps.size = N
  val : ∀ i, VC P E ρ ((t.get i).getD .unk) (a.tmps.getD i undef)
  none : ∀ i, N ≤ i → t.get i = Option.none
theorem TKR.ev {ρ : Ren} {t : KTm} {N : Nat} {a : Act} (h : TKR P E ρ t N a) (x : Operand) : VC P E ρ (evK t x) (a.eval x) := by
  cases x with
  | tmp i => exact h.val i
  | const v =>
    simp only [evK, Act.eval]
    cases hf : flat v with
    | true => exact ⟨v, .ofV v, VR.of_flat hf⟩
    | false => exact .unk
  | global g => exact .unk
  | func f => exact ⟨.func (.func f) ⟨[]⟩ ⟨[]⟩, .mkFn .nil .nil, VR.mkFunc (l := []) (m := []) _ .nil .nil⟩
theorem TKR.mono {E' : Env} {ρ ρ' : Ren} {t : KTm} {N : Nat} {a : Act} (h : TKR P E ρ t N a) (k : E.le E') (m : ρ.le ρ') : TKR P E' ρ' t N a := ⟨h.size, fun i => (h.val i).mono k m, h.none⟩
theorem TKR.put {ρ : Ren} {t : KTm} {N : Nat} {a : Act} {dst : Option Tmp} {v : KV} {v' : Value} (h : TKR P E ρ t N a) (hd : ∀ d, dst = some d → d < N) (hv : VC P E ρ v v') : TKR P E ρ (putK t dst v) N (a.put dst v') := by
  cases dst with
  | none => exact h
  | some d =>
    have hd := hd d rfl
    refine ⟨by simp [Act.put, h.size], fun i => ?_, fun i hi => ?_⟩
    · simp only [putK, Trie.get_set, Act.put]
      by_cases e : i = d
      · subst e
        have : i < a.tmps.size := by rw [h.size]; exact hd
        simp [Array.getD_eq_getD_getElem?, this, hv]
      · have := h.val i
        simp only [if_neg e]
        simpa [Array.getD_eq_getD_getElem?, Array.getElem?_setIfInBounds_ne (Ne.symm e)] using this
    · simp only [putK, Trie.get_set]
      have hne : i ≠ d := fun e => absurd hi (by rw [e]; exact Nat.not_le_of_lt hd)
      rw [if_neg hne]
      exact h.none i hi
/-- the same temporaries, written otherwise -/
theorem TKR.same {ρ : Ren} {t t' : KTm} {N : Nat} {a : Act} (h : TKR P E ρ t N a) (hs : ∀ i, t'.get i = t.get i) : TKR P E ρ t' N a :=
  ⟨h.size, fun i => by rw [hs]; exact h.val i, fun i hi => by rw [hs]; exact h.none i hi⟩
theorem boolK_bool {v : KV} {b : Bool} (h : boolK v = .bool b) : v = .bool b := by cases v <;> simp [boolK] at h; rw [h]
theorem boolK_tup {v : KV} (h : boolK v = .tup) : ∃ l, v = .tup l := by cases v <;> simp [boolK] at h; exact ⟨_, rfl⟩
theorem refine_same {t : KTm} {d : Tmp} {b : Bool} (h : boolK ((t.get d).getD .unk) = .bool b) : ∀ i, (Trie.set (.bool b) t d).get i = t.get i := by
  intro i
  have := boolK_bool h
  rw [Trie.get_set]
  split
  · rename_i e
    subst e
    cases ht : t.get i with
    | none => rw [ht] at this; simp at this
    | some v => rw [ht] at this; simp at this; rw [this]
  · rfl
theorem VC.bool_inv {ρ : Ren} {b : Bool} {v : Value} (h : VC P E ρ (.bool b) v) : v = .bool b := by
  obtain ⟨u, h1, h2⟩ := h
  have := h1.bool_inv; subst this
  exact h2.bool_inv

/-- an operation that hangs on another one -/
theorem guard_sound {R : Type} {ρ : Ren} {t : KTm} {N : Nat} {a : Act} {all : List Oper} {o : Oper} {j : Nat} {want : Bool} {yes no : KTm → Option R} {r : R} (hg : o.guard = some (j, want)) (ht : TKR P E ρ t N a)
    (h : grdK t ((all[j]?).bind (·.dst)) want yes no = some r) :
    ∃ t', (∀ i, t'.get i = t.get i) ∧ ((Region.wanted o (yielded ⟨all⟩ a.tmps) = true ∧ yes t' = some r) ∨ (Region.wanted o (yielded ⟨all⟩ a.tmps) = false ∧ no t' = some r)) := by
  unfold grdK at h
  cases hd : (all[j]?).bind (·.dst) with
  | none => rw [hd] at h; exact absurd h (by simp)
  | some d =>
    rw [hd] at h
    have hw : ∀ u, a.tmps[d]? = some u → Region.wanted o (yielded ⟨all⟩ a.tmps) = (match u with
        | .bool b => b == want
        | _ => false) := by
      intro u hu
      unfold Region.wanted
      rw [hg]
      simp only
      unfold yielded
      have e : (⟨all⟩ : Array Oper)[j]? = all[j]? := by simp
      rw [e, hd]
      simp only [Option.bind_some, hu]
      cases u <;> rfl
    have hval := ht.val d
    have h : BK.rec (motive := fun _ => Option R)
      (fun b => Bool.rec (motive := fun _ => Option R)
        (Bool.rec (motive := fun _ => Option R) (yes (t.set (.bool false) d)) (no (t.set (.bool false) d)) want)
        (Bool.rec (motive := fun _ => Option R) (no (t.set (.bool true) d)) (yes (t.set (.bool true) d)) want) b)
      (no t) none (boolK ((t.get d).getD .unk)) = some r := h
    cases hb : boolK ((t.get d).getD .unk) with
    | no => rw [hb] at h; exact absurd h (by simp)
    | tup =>
      rw [hb] at h
      obtain ⟨l, hl⟩ := boolK_tup hb
      rw [hl] at hval
      obtain ⟨u, h1, h2⟩ := hval
      obtain ⟨m, rfl, _⟩ := h1.tup_inv
      obtain ⟨m', h3, _⟩ := h2.tuple_inv
      refine ⟨t, fun _ => rfl, .inr ⟨?_, h⟩⟩
      cases hc : a.tmps[d]? with
      | none =>
        unfold Region.wanted
        rw [hg]
        simp only
        unfold yielded
        have e : (⟨all⟩ : Array Oper)[j]? = all[j]? := by simp
        rw [e, hd]
        simp [hc]
      | some u =>
        have : u = .tuple m' := by rw [← h3]; simp [Array.getD_eq_getD_getElem?, hc]
        rw [hw u hc, this]
    | bool b =>
      rw [hb] at h
      have hbv := boolK_bool hb
      rw [hbv] at hval
      have hcv := hval.bool_inv
      have hc : a.tmps[d]? = some (.bool b) := by
        cases hc : a.tmps[d]? with
        | none => simp [Array.getD_eq_getD_getElem?, hc, undef] at hcv
        | some u => have : u = .bool b := by rw [← hcv]; simp [Array.getD_eq_getD_getElem?, hc]
                    rw [this]
      have hwd := hw _ hc
      refine ⟨t.set (.bool b) d, refine_same hb, ?_⟩
      cases b <;> cases want
      · exact .inl ⟨hwd, h⟩
      · exact .inr ⟨hwd, h⟩
      · exact .inr ⟨hwd, h⟩
      · exact .inl ⟨hwd, h⟩

/-! ## Calls -/
def VCL (P : Program) (E : Env) (ρ : Ren) (l : List KV) (l' : List Value) : Prop := ∃ m, VKL P E l m ∧ VRL ρ m l'
def Callable (P : Program) (g : FuncId) : Prop := ∃ fn, P.funcs[g]? = some fn ∧ fn.body.isSome = true ∧ (fn.name == "runtime.NumGoroutine") = false
def ICallOk {R : Type} (P : Program) (icall : ICall R) : Prop :=
  ∀ f args A k r, icall f args A k = some r → Callable P f ∧ ∀ (E : Env) (B : St) (ρ : Ren) (base : Nat) (w : World) (args' : List Value), VCL P E ρ args args' → KJ P E A B ρ base w →
    Calls P f args'.toArray w fun e w' => ∃ v v' E' A' B' ρ', e = .returned v' ∧ VC P E' ρ' v v' ∧ Ev P base E A B ρ w E' A' B' ρ' w' ∧ k v A' = some r
/-- a pure function that is told whole -/
def PureOk (P : Program) (g : FuncId) (F : List KV → KR KV) : Prop :=
  ∀ args v, Gives (F (normArgs P (paramsOf P g) args)) v → args.length = (paramsOf P g).length → Callable P g ∧ ∀ (E : Env) (A : KSt) (B : St) (ρ : Ren) (base : Nat) (w : World) (args' : List Value), VCL P E ρ args args' → KJ P E A B ρ base w →
    Calls P g args'.toArray w fun e w' => ∃ v' E' B' ρ', e = .returned v' ∧ VC P E' ρ' v v' ∧ Ev P base E A B ρ w E' A B' ρ' w'
def PcOk (P : Program) (pc : FuncId → Option (List KV → KR KV)) : Prop := ∀ g F, pc g = some F → PureOk P g F

theorem ev_append {xs : List Operand} {ev : Operand → KV} {ev' : Operand → Value} {ρ : Ren} (h : ∀ x ∈ xs, VC P E ρ (ev x) (ev' x)) : VCL P E ρ (xs.map ev) (xs.map ev') := by
  obtain ⟨em, h1, h2⟩ := mid h
  exact ⟨_, h1, h2.map⟩
/-- entering a call -/
theorem enter_sound {o : Oper} {f : Operand} {args : List Operand} (hcomp : compile P o.op = .call f args) {ρ : Ren} {t : KTm} {N : Nat} {a : Act} (ht : TKR P E ρ t N a) {g : FuncId} {vs : List KV} (hc : calleeK (evsK t args) (evK t f) = some (g, vs)) (hg : Callable P g) :
    ∃ vs', VCL P E ρ vs vs' ∧ ∀ w, (execOp a.eval o).run P w = .ok (.enter g vs'.toArray) w := by
  have hok := compile_ok P o
  rw [hcomp] at hok
  obtain ⟨em, h1, h2⟩ := mid (xs := f :: args) (ev := evK t) (ev' := a.eval) fun x _ => ht.ev x
  obtain ⟨y, ys, e, h3, h4⟩ := h1.cons_inv
  simp only [List.map_cons, List.cons.injEq] at e
  obtain ⟨rfl, rfl⟩ := e
  have hv : ∃ us, calleeVal (args.map em) (em f) = some (g, us) ∧ VKL P E vs us := by
    unfold calleeK at hc
    split at hc
    · rename_i g' first cap e
      simp only [Option.some.injEq, Prod.mk.injEq] at hc
      obtain ⟨rfl, rfl⟩ := hc
      rw [e] at h3
      obtain ⟨l, m, e2, h5, h6⟩ := h3.fn_inv
      rw [e2]
      refine ⟨l ++ args.map em ++ m, rfl, ?_⟩
      rw [evsK_map]
      exact (h5.append h4).append h6
    · simp at hc
  obtain ⟨us, h5, h6⟩ := hv
  obtain ⟨vs', h7, h8⟩ := hok ρ em a.eval g us h2 h5 hg
  exact ⟨vs', ⟨us, h6, h7⟩, h8⟩
def notCall : KIns → Bool
  | .call _ _ => false
  | .pcall _ _ _ => false
  | _ => true
theorem notCall_cond {c : Bool} {x : KIns} (h : notCall x = true) : notCall (cond c x .bad) = true := by
  cases c with
  | false => rfl
  | true => exact h
theorem builtin_notCall (b : Builtin) (ts : List TypeId) (args : List Operand) : notCall (kinsBuiltin P b ts args) = true := by
  unfold kinsBuiltin kinsLen kinsAppend
  repeat' split
  all_goals first | rfl | exact notCall_cond rfl
theorem kcomp_call {cfg : Cfg} {op : Op} {f : Operand} {args : List Operand} (h : kcomp P cfg op = .call f args) : compile P op = .call f args := by
  have key : notCall (kcomp P cfg op) = true → compile P op = .call f args := fun hn => by rw [h] at hn; simp [notCall] at hn
  cases op with
  | call c =>
    have h : kinsCall P cfg c = .call f args := h
    show insCall P c = _
    unfold kinsCall at h
    unfold insCall
    split at h
    · rename_i g hc
      split at h
      · simp at h
      · simp at h; obtain ⟨rfl, rfl⟩ := h; rw [hc]
    · rename_i f' hne hc; simp at h; obtain ⟨rfl, rfl⟩ := h; rw [hc]
    · rename_i b hc
      have := builtin_notCall (P := P) b c.argTypes.toList c.args.toList
      rw [h] at this
      simp [notCall] at this
    · simp at h
  | alloc t => exact key (by show notCall (insAlloc P t) = true; unfold insAlloc; split <;> first | rfl | exact notCall_cond rfl)
  | build t ps => exact key (by show notCall (kinsBuild P t _ _) = true; unfold kinsBuild; (repeat' split); all_goals first | rfl | exact notCall_cond rfl)
  | buildSlice t n ps => exact key (by show notCall (kinsBuildSlice P t n _ _) = true; unfold kinsBuildSlice; (repeat' split); all_goals first | rfl | exact notCall_cond rfl)
  | convert s d x => exact key (by show notCall (kinsConvert P s d x) = true; unfold kinsConvert; (repeat' split); all_goals first | rfl | exact notCall_cond rfl)
  | makeFunc fn a b => exact key (by show notCall (cond (isYield fn) .bad _) = true; cases isYield fn <;> rfl)
  | fieldAddr s x i => exact key (by show notCall (kinsFieldAddr P s x i) = true; unfold kinsFieldAddr; (repeat' split); all_goals rfl)
  | field s x i => exact key (by show notCall (kinsField P s x i) = true; unfold kinsField; (repeat' split); all_goals rfl)
  | indexAddr s x i => exact key (by show notCall (kinsIndexAddr P s x i) = true; unfold kinsIndexAddr; (repeat' split); all_goals rfl)
  | index s x i => exact key (by show notCall (kinsIndex P s x i) = true; unfold kinsIndex; (repeat' split); all_goals rfl)
  | slice t x lo hi mx => exact key (by show notCall (kinsSlice P t x lo hi mx) = true; unfold kinsSlice; (repeat' split); all_goals first | rfl | exact notCall_cond rfl)
  | makeSlice t l c => exact key (by show notCall (kinsMakeSlice P t l c) = true; unfold kinsMakeSlice; (repeat' split); all_goals first | rfl | exact notCall_cond rfl)
  | _ => exact key rfl
theorem kcomp_pcall {cfg : Cfg} {op : Op} {g : FuncId} {F : List KV → KR KV} {args : List Operand} (h : kcomp P cfg op = .pcall g F args) : compile P op = .call (.func g) args ∧ ∃ F0, cfg.pc g = some F0 ∧ F = fun vs => cond (Nat.beq vs.length (paramsOf P g).length) (F0 (normArgs P (paramsOf P g) vs)) .no := by
  have key : notCall (kcomp P cfg op) = true → compile P op = .call (.func g) args ∧ ∃ F0, cfg.pc g = some F0 ∧ F = fun vs => cond (Nat.beq vs.length (paramsOf P g).length) (F0 (normArgs P (paramsOf P g) vs)) .no := fun hn => by rw [h] at hn; simp [notCall] at hn
  cases op with
  | call c =>
    have h : kinsCall P cfg c = .pcall g F args := h
    show insCall P c = _ ∧ _
    unfold kinsCall at h
    unfold insCall
    split at h
    · rename_i g' hc
      split at h
      · rename_i F0 hF
        simp at h; obtain ⟨rfl, rfl, rfl⟩ := h; rw [hc]
        exact ⟨rfl, F0, hF, rfl⟩
      · simp at h
    · simp at h
    · rename_i b hc
      have := builtin_notCall (P := P) b c.argTypes.toList c.args.toList
      rw [h] at this
      simp [notCall] at this
    · simp at h
  | alloc t => exact key (by show notCall (insAlloc P t) = true; unfold insAlloc; split <;> first | rfl | exact notCall_cond rfl)
  | build t ps => exact key (by show notCall (kinsBuild P t _ _) = true; unfold kinsBuild; (repeat' split); all_goals first | rfl | exact notCall_cond rfl)
  | buildSlice t n ps => exact key (by show notCall (kinsBuildSlice P t n _ _) = true; unfold kinsBuildSlice; (repeat' split); all_goals first | rfl | exact notCall_cond rfl)
  | convert s d x => exact key (by show notCall (kinsConvert P s d x) = true; unfold kinsConvert; (repeat' split); all_goals first | rfl | exact notCall_cond rfl)
  | makeFunc fn a b => exact key (by show notCall (cond (isYield fn) .bad _) = true; cases isYield fn <;> rfl)
  | fieldAddr s x i => exact key (by show notCall (kinsFieldAddr P s x i) = true; unfold kinsFieldAddr; (repeat' split); all_goals rfl)
  | field s x i => exact key (by show notCall (kinsField P s x i) = true; unfold kinsField; (repeat' split); all_goals rfl)
  | indexAddr s x i => exact key (by show notCall (kinsIndexAddr P s x i) = true; unfold kinsIndexAddr; (repeat' split); all_goals rfl)
  | index s x i => exact key (by show notCall (kinsIndex P s x i) = true; unfold kinsIndex; (repeat' split); all_goals rfl)
  | slice t x lo hi mx => exact key (by show notCall (kinsSlice P t x lo hi mx) = true; unfold kinsSlice; (repeat' split); all_goals first | rfl | exact notCall_cond rfl)
  | makeSlice t l c => exact key (by show notCall (kinsMakeSlice P t l c) = true; unfold kinsMakeSlice; (repeat' split); all_goals first | rfl | exact notCall_cond rfl)
  | _ => exact key rfl

/-! ## One operation -/
/-- what an operation that is no call comes to -/
noncomputable def dirK (ins : KIns) (t : KTm) (A : KSt) : KR (KV × KSt) :=
  match ins with
  | .pure f xs => (f (evsK t xs)).map fun v => (v, A)
  | .read f xs => (f A (evsK t xs)).map fun v => (v, A)
  | .act f xs => f A (evsK t xs)
  | .look f xs => (f (evsK t xs)).map fun v => (v, A)
  | .pcall _ f xs => (f (evsK t xs)).map fun v => (v, A)
  | .call _ _ => .no
  | .bad => .no
theorem Gives.map {α β : Type} {r : KR α} {f : α → β} {v : β} (h : Gives (r.map f) v) : ∃ u, Gives r u ∧ f u = v := by
  cases r with
  | no => exact h.elim
  | ok u => exact ⟨u, rfl, h⟩
  | chk c u => exact ⟨u, ⟨h.1, rfl⟩, h.2⟩
theorem Gives.mk_map {α β : Type} {r : KR α} {f : α → β} {u : α} (h : Gives r u) : Gives (r.map f) (f u) := by
  cases r with
  | no => exact h.elim
  | ok x => have h : x = u := h; subst h; exact rfl
  | chk c x => obtain ⟨h1, rfl⟩ := h; exact ⟨h1, rfl⟩
theorem dir_of {R : Type} {icall : ICall R} {t : KTm} {A : KSt} {k : KV → KSt → Option R} {ins : KIns} {r : R} (hn : ∀ f args, ins ≠ .call f args) (h : insK icall t A k ins = some r) : ∃ v A', Gives (dirK ins t A) (v, A') ∧ k v A' = some r := by
  cases ins with
  | pure f xs => obtain ⟨v, h1, h2⟩ := KR.run_some h; exact ⟨v, A, h1.mk_map, h2⟩
  | read f xs => obtain ⟨v, h1, h2⟩ := KR.run_some h; exact ⟨v, A, h1.mk_map, h2⟩
  | act f xs => obtain ⟨v, h1, h2⟩ := KR.run_some h; exact ⟨v.1, v.2, h1, h2⟩
  | look f xs => obtain ⟨v, h1, h2⟩ := KR.run_some h; exact ⟨v, A, h1.mk_map, h2⟩
  | pcall g f xs => obtain ⟨v, h1, h2⟩ := KR.run_some h; exact ⟨v, A, h1.mk_map, h2⟩
  | call f args => exact absurd rfl (hn f args)
  | bad => exact absurd h (by simp [insK])
theorem dir_sound {cfg : Cfg} (hpc : PcOk P cfg.pc) {o : Oper} {t : KTm} {A A' : KSt} {v : KV} {base : Nat} {B : St} {ρ : Ren} {a : Act} {w : World} {next : Act → World → Prop} {Q : Exit → Act → World → Prop}
    (h : Gives (dirK (kcomp P cfg o.op) t A) (v, A')) (hv : ∀ x ∈ insOps (kcomp P cfg o.op), VC P E ρ (evK t x) (a.eval x)) (hj : KJ P E A B ρ base w)
    (hk : ∀ E' B' ρ' v' w', VC P E' ρ' v v' → Ev P base E A B ρ w E' A' B' ρ' w' → next (a.put o.dst v') w') : o.wp P a w next Q := by
  have hok := kcomp_ok P cfg o
  have hpcall := @kcomp_pcall P cfg o.op
  generalize kcomp P cfg o.op = ins at h hok hv hpcall
  unfold Oper.wp
  cases ins with
  | pure f xs =>
    obtain ⟨u, h1, h2⟩ := Gives.map h
    simp only [Prod.mk.injEq] at h2
    obtain ⟨rfl, rfl⟩ := h2
    rw [evsK_map] at h1
    obtain ⟨v', h3, h4⟩ := hok E ρ (evK t) a.eval u hv h1
    rw [h4 w]
    exact hk E B ρ v' w h3 (.refl hj.k hj.s)
  | read f xs =>
    obtain ⟨u, h1, h2⟩ := Gives.map h
    simp only [Prod.mk.injEq] at h2
    obtain ⟨rfl, rfl⟩ := h2
    rw [evsK_map] at h1
    obtain ⟨v', h3, h4⟩ := hok E A B ρ base w (evK t) a.eval u hj hv h1
    rw [h4]
    exact hk E B ρ v' w h3 (.refl hj.k hj.s)
  | act f xs =>
    have h : Gives (f A (evsK t xs)) (v, A') := h
    rw [evsK_map] at h
    obtain ⟨E', B', ρ', v', nx, w', h1, h2, h3, h4⟩ := hok E A A' B ρ base w (evK t) a.eval v hj hv h
    rw [h1]
    have hd := hk E' B' ρ' v' w' h3 h4
    cases nx with
    | value u => have : u = v' := h2; subst this; exact hd
    | skip => have : v' = undef := h2; subst this; exact hd
    | _ => exact h2.elim
  | look f xs =>
    obtain ⟨u, h1, h2⟩ := Gives.map h
    simp only [Prod.mk.injEq] at h2
    obtain ⟨rfl, rfl⟩ := h2
    rw [evsK_map] at h1
    obtain ⟨E', B', ρ', v', nx, w', h3, h4, h5, h6⟩ := hok E A B ρ base w (evK t) a.eval u hj hv h1
    rw [h3]
    have hd := hk E' B' ρ' v' w' h5 h6
    cases nx with
    | value u => have : u = v' := h4; subst this; exact hd
    | skip => have : v' = undef := h4; subst this; exact hd
    | _ => exact h4.elim
  | pcall g f xs =>
    obtain ⟨u, h1, h2⟩ := Gives.map h
    simp only [Prod.mk.injEq] at h2
    obtain ⟨rfl, rfl⟩ := h2
    obtain ⟨hcomp, F0, hF0, rfl⟩ := hpcall rfl
    obtain ⟨hlen, hf⟩ := Gives.cond h1
    have hlen := Nat.eq_of_beq_eq_true hlen
    obtain ⟨hg, hrun⟩ := hpc g F0 hF0 _ _ hf hlen
    have hok' := compile_ok P o
    rw [hcomp] at hok'
    obtain ⟨em, h3, h4⟩ := mid (xs := xs) hv
    let em2 : Operand → Value := fun x => match x with
      | .func f => .func (.func f) #[] #[]
      | x => em x
    have e3 : ∀ x ∈ xs, VK P E (evK t x) (em2 x) ∧ VR ρ (em2 x) (a.eval x) := by
      intro x hx
      have key : ∀ (l : List Operand), VKL P E (l.map (evK t)) (l.map em) → x ∈ l → VK P E (evK t x) (em x) := by
        intro l
        induction l with
        | nil => intro _ h; simp at h
        | cons y l ih =>
          intro h hm
          obtain ⟨z, zs, e, q1, q2⟩ := h.cons_inv
          simp only [List.map_cons, List.cons.injEq] at e
          obtain ⟨rfl, rfl⟩ := e
          rcases List.mem_cons.1 hm with rfl | hm
          · exact q1
          · exact ih q2 hm
      cases x with
      | func f => exact ⟨.mkFn .nil .nil, VR.mkFunc (l := []) (m := []) _ .nil .nil⟩
      | tmp i => exact ⟨key xs h3 hx, h4 _ hx⟩
      | const c => exact ⟨key xs h3 hx, h4 _ hx⟩
      | global q => exact ⟨key xs h3 hx, h4 _ hx⟩
    have e4 : VKL P E (xs.map (evK t)) (xs.map em2) := by
      have : ∀ (l : List Operand), (∀ x ∈ l, VK P E (evK t x) (em2 x)) → VKL P E (l.map (evK t)) (l.map em2) := by
        intro l
        induction l with
        | nil => intro _; exact .nil
        | cons y l ih => intro h; exact .cons (h y (by simp)) (ih fun z hz => h z (by simp [hz]))
      exact this xs fun x hx => (e3 x hx).1
    obtain ⟨vs', h5, h6⟩ := hok' ρ em2 a.eval g (xs.map em2) (fun x hx => by
        rcases List.mem_cons.1 hx with rfl | hx
        · exact VR.mkFunc (l := []) (m := []) _ .nil .nil
        · exact (e3 x hx).2) (by simp [em2, calleeVal]) hg
    rw [h6 w]
    refine (hrun E A B ρ base w vs' ⟨xs.map em2, by rw [evsK_map]; exact e4, h5⟩ hj).mono ?_
    rintro e w' ⟨v', E', B', ρ', rfl, h7, h8⟩
    exact hk E' B' ρ' v' w' h7 h8
  | call f args => exact h.elim
  | bad => exact h.elim
end Go.K
