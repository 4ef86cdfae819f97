/-
  Loops that are told whole: the rounds are the loop's.
-/
import Derived.Test.YtjmpheohljeapaaKLoop5
namespace Go.K
open Go Go.Abs
variable {P : Program} {E : Env}

/-- what is known of what is handed on -/
structure StOk (P : Program) (S : LSpec) (vs : List KV) (rs : List (List KV)) : Prop where
  v : goodVDs S.vals vs = true
  lenr : rs.length = S.rows.length
  good : ∀ (k : Nat) p r, S.rows[k]? = some p → rs[k]? = some r → goodCDs p.2.1 r = true
  vn : ∃ t, vs = grabV P t S.vals
  rn : ∀ (k : Nat) p, S.rows[k]? = some p → ∃ cs0, rs[k]? = some (normCDs P p.2.1 cs0) ∧ cs0.length = p.2.1.length
theorem Grabbed.stOk {S : LSpec} {t : KTm} {A : KSt} {g : GR} (h : Grabbed P S t A g) : StOk P S g.vs g.rs :=
  ⟨h.vals, h.lenr, h.good, ⟨t, h.vs⟩, fun _ _ hp => by obtain ⟨_, cs, _, _, h1, _, h2, _⟩ := h.row hp; exact ⟨cs, h2, h1⟩⟩
section
variable {cfg : Cfg} {L n : Nat} {f : FuncId} {S : LSpec} {root body : Code} {p N : Nat}
theorem round_run (hP : P.funcs.toList.all funcOk = true) (hm : P.follows .mixedOrders = true) (hpc : PcOk P cfg.pc) (hlp : LpAll P cfg) {fn : Func} (hf : P.funcs[f]? = some fn) (hb : fn.body = some root) (hs : Sub root p (.loop body)) (hc : codeOk N body = true)
    {vs vs' : List KV} {rs rs' : List (List KV)} {e : AExit} (hr : roundK P cfg L n f p body S vs rs = some (e, vs', rs')) {B : St} {ρ : Ren} {base : Nat} {a : Act} {w : World} {Q : Exit → Act → World → Prop} (hok : StOk P S vs rs)
    (ht : TKR P E ρ (S.tm S.nr S.ids vs) N a) (hj : KJ P E (S.mem P vs rs) B ρ base w)
    (hq : ∀ E' B' ρ' a' w', TKR P E' ρ' (S.tm S.nr S.ids vs') N a' → a'.defers = a.defers → KJ P E' (S.mem P vs' rs') B' ρ' base w' → Co base E B ρ w E' B' ρ' w' → (∀ k, k < S.rows.length → E'.κ k = E.κ k) → StOk P S vs' rs' → Q e.out a' w') : body.wp P Q a w := by
  have hic := icall_soundK (R := AExit × List KV × List (List KV)) hP hm hpc hlp L n
  refine code_soundK hpc hic hm (hlp f fn root hf hb) body (2 * p) hs.loop hc _ _ _ _ E B ρ base a w Q hr ht hj fun e' t' E1 A1 B1 ρ1 a1 w1 h1 h2 h3 h4 => ?_
  cases hi : sameIds (S.grab P t' A1).bs S.ids with
  | false =>
    simp only [hi, cond_false] at h1
    exact absurd h1 (by simp)
  | true =>
    simp only [hi, cond_true] at h1
    cases ho : (S.grab P t' A1).ok with
    | false => simp only [ho] at h1; exact absurd h1 (by simp)
    | true =>
      simp only [ho, Option.some.injEq, Prod.mk.injEq] at h1
      obtain ⟨rfl, rfl, rfl⟩ := h1
      have hG := grabbed ho
      have hids := sameIds_ok hi
      refine hq _ B1 ρ1 a1 w1 (hG.tkr h2) h3 ⟨hG.sim h4.sim, h4.goes.sim⟩ h4.co (fun k hk => ?_) hG.stOk
      have hp := List.getElem?_eq_getElem hk
      have hr' := List.getElem?_eq_getElem (show k < rs.length by rw [hok.lenr]; exact hk)
      obtain ⟨x, _, hx, _⟩ := hj.k.row k _ _ (mem_row hok.lenr hp hr')
      have e1 : (E1.sub (S.grab P t' A1).bs (S.grab P t' A1).fs S.nr).κ k = E1.κ k := by
        simp only [Env.sub]
        rw [hids, ids_get S k hk, Option.bind_some]
      rw [e1, hx]
      exact h4.le.κ k x hx
theorem iter_run (hP : P.funcs.toList.all funcOk = true) (hm : P.follows .mixedOrders = true) (hpc : PcOk P cfg.pc) (hlp : LpAll P cfg) {fn : Func} (hf : P.funcs[f]? = some fn) (hb : fn.body = some root) (hs : Sub root p (.loop body)) (hc : codeOk N body = true)
    {e : AExit} {vs' : List KV} {rs' : List (List KV)} : ∀ (m : Nat) {vs : List KV} {rs : List (List KV)}, iterK (roundK P cfg L n f p body S) m vs rs = some (e, vs', rs') → ∀ {E : Env} {B : St} {ρ : Ren} {base : Nat} {a : Act} {w : World} {Q : Exit → Act → World → Prop}, StOk P S vs rs →
    TKR P E ρ (S.tm S.nr S.ids vs) N a → KJ P E (S.mem P vs rs) B ρ base w →
    (∀ E' B' ρ' a' w', TKR P E' ρ' (S.tm S.nr S.ids vs') N a' → a'.defers = a.defers → KJ P E' (S.mem P vs' rs') B' ρ' base w' → Co base E B ρ w E' B' ρ' w' → (∀ k, k < S.rows.length → E'.κ k = E.κ k) → StOk P S vs' rs' → Q e.out a' w') → Code.rounds P body Q m a w
  | 0, vs, rs, h, E, B, ρ, base, a, w, Q, hok, ht, hj, hq => by simp [iterK] at h
  | m + 1, vs, rs, h, E, B, ρ, base, a, w, Q, hok, ht, hj, hq => by
    unfold iterK at h
    split at h
    · rename_i e1 vs1 rs1 hr
      rw [rounds_succ]
      refine round_run hP hm hpc hlp hf hb hs hc hr hok ht hj fun E' B' ρ' a' w' h1 h2 h3 h4 h5 h6 => ?_
      have fin : isNormal e1 = false → some (e1, vs1, rs1) = some (e, vs', rs') → Q e1.out a' w' := by
        intro _ h
        simp only [Option.some.injEq, Prod.mk.injEq] at h
        obtain ⟨rfl, rfl, rfl⟩ := h
        exact hq E' B' ρ' a' w' h1 h2 h3 h4 h5 h6
      cases e1 with
      | normal =>
        have h : iterK (roundK P cfg L n f p body S) m vs1 rs1 = some (e, vs', rs') := h
        exact iter_run hP hm hpc hlp hf hb hs hc m h h6 h1 h3 fun E'' B'' ρ'' a'' w'' q1 q2 q3 q4 q5 q6 => hq E'' B'' ρ'' a'' w'' q1 (q2.trans h2) q3 (h4.trans q4) (fun k hk => (q5 k hk).trans (h5 k hk)) q6
      | exit id => exact fin rfl h
      | goto l => exact fin rfl h
      | ret => exact fin rfl h
    · simp at h
theorem tell_run {R : Type} {bs : List Nat} {fs : List (Option Nat)} {A : KSt} {k : KE R} {r : R} : ∀ (x : LTell), (x.tell P S bs fs A).run k = some r → ∃ e vs' rs', x.ev = some (e, vs', rs') ∧ k e (S.tm A.next bs vs') (S.back P bs fs vs' rs' A) = some r
  | .no, h => absurd h (by simp [LTell.tell, Tell.run])
  | .out e vs rs, h => ⟨e, vs, rs, rfl, h⟩
  | .br c x y, h => by
    have h : Bool.rec (motive := fun _ => Option R) ((y.tell P S bs fs A).run k) ((x.tell P S bs fs A).run k) c = some r := h
    cases c with
    | true => exact tell_run x h
    | false => exact tell_run y h
/-- a loop, by its rounds -/
theorem loop_told (hP : P.funcs.toList.all funcOk = true) (hm : P.follows .mixedOrders = true) (hpc : PcOk P cfg.pc) (hlp : LpAll P cfg) {fn : Func} (hf : P.funcs[f]? = some fn) (hb : fn.body = some root) (hs : Sub root p (.loop body)) (hc : codeOk N body = true) {F : LFn}
    (hF : ∀ vs rs e vs' rs', StOk P S vs rs → (F vs rs).ev = some (e, vs', rs') → ∃ m, iterK (roundK P cfg L n f p body S) m vs rs = some (e, vs', rs')) : LoopTold P N body (mkLp P S F) := by
  intro R k r t A E B ρ base a w Q h ht hj hq
  have h : Bool.rec (motive := fun _ => Option R) none (((F (S.grab P t A).vs (S.grab P t A).rs).tell P S (S.grab P t A).bs (S.grab P t A).fs A).run k) (S.grab P t A).ok = some r := h
  cases ho : (S.grab P t A).ok with
  | false => rw [ho] at h; exact absurd h (by simp)
  | true =>
    rw [ho] at h
    have hG := grabbed ho
    obtain ⟨e, vs', rs', h9, h10⟩ := tell_run _ h
    obtain ⟨m, hm'⟩ := hF _ _ e vs' rs' hG.stOk h9
    refine wp_loop_rounds m (iter_run hP hm hpc hlp hf hb hs hc m hm' hG.stOk (hG.tkr ht) ⟨hG.sim hj.k, hj.s⟩ fun E' B' ρ' a' w' q1 q2 q3 q4 q5 q6 => ?_)
    obtain ⟨E2, r1, r2⟩ := restore hG hj.k q1 q3.k q4 q5 q6.v q6.lenr q6.good
    exact hq e _ E2 _ B' ρ' a' w' h10 r1 q2 r2
end

/-! ## Where a loop lies -/
def childK : Code → Bool → Option Code
  | .seq a _, false => some a
  | .seq _ b, true => some b
  | .cond _ a _, false => some a
  | .cond _ _ b, true => some b
  | .block _ a, false => some a
  | .loop a, false => some a
  | .scope a, false => some a
  | _, _ => none
def codeAt : Nat → Code → Nat → Option Code
  | 0, _, _ => none
  | n + 1, root, p => cond (Nat.ble p 1) (cond (Nat.beq p 1) (some root) none) ((codeAt n root (p / 2)).bind fun c => childK c (Nat.beq (p % 2) 1))
theorem codeAt_mono : ∀ {n : Nat} {root c : Code} {p : Nat}, codeAt n root p = some c → codeAt (n + 1) root p = some c
  | 0, _, _, _, h => by simp [codeAt] at h
  | n + 1, root, c, p, h => by
    unfold codeAt at h ⊢
    cases hp : Nat.ble p 1 with
    | true => rw [hp] at h; exact h
    | false =>
      rw [hp] at h
      simp only [cond_false] at h ⊢
      obtain ⟨d, h1, h2⟩ := Option.bind_eq_some_iff.1 h
      exact Option.bind_eq_some_iff.2 ⟨d, codeAt_mono h1, h2⟩
theorem codeAt_le {root c : Code} {p n : Nat} (h : codeAt n root p = some c) : ∀ k, codeAt (n + k) root p = some c
  | 0 => h
  | k + 1 => codeAt_mono (codeAt_le h k)
theorem Sub.pos {root c : Code} {p : Nat} (h : Sub root p c) : 1 ≤ p := by induction h <;> omega
theorem Sub.at {root c : Code} {p : Nat} (h : Sub root p c) : ∃ n, codeAt n root p = some c := by
  have left : ∀ {q n : Nat} {d : Code}, 1 ≤ q → codeAt n root q = some d → codeAt (n + 1) root (2 * q) = childK d false := by
    intro q n d hq hd
    unfold codeAt
    have : Nat.ble (2 * q) 1 = false := by
      cases hb : Nat.ble (2 * q) 1 with
      | false => rfl
      | true => have := Nat.le_of_ble_eq_true hb; omega
    rw [this, cond_false, show 2 * q / 2 = q by omega, hd, show 2 * q % 2 = 0 by omega]
    rfl
  have right : ∀ {q n : Nat} {d : Code}, 1 ≤ q → codeAt n root q = some d → codeAt (n + 1) root (2 * q + 1) = childK d true := by
    intro q n d hq hd
    unfold codeAt
    have : Nat.ble (2 * q + 1) 1 = false := by
      cases hb : Nat.ble (2 * q + 1) 1 with
      | false => rfl
      | true => have := Nat.le_of_ble_eq_true hb; omega
    rw [this, cond_false, show (2 * q + 1) / 2 = q by omega, hd, show (2 * q + 1) % 2 = 1 by omega]
    rfl
  induction h with
  | root => exact ⟨1, rfl⟩
  | seqL hs ih => obtain ⟨n, hn⟩ := ih; exact ⟨n + 1, left hs.pos hn⟩
  | seqR hs ih => obtain ⟨n, hn⟩ := ih; exact ⟨n + 1, right hs.pos hn⟩
  | condL hs ih => obtain ⟨n, hn⟩ := ih; exact ⟨n + 1, left hs.pos hn⟩
  | condR hs ih => obtain ⟨n, hn⟩ := ih; exact ⟨n + 1, right hs.pos hn⟩
  | block hs ih => obtain ⟨n, hn⟩ := ih; exact ⟨n + 1, left hs.pos hn⟩
  | loop hs ih => obtain ⟨n, hn⟩ := ih; exact ⟨n + 1, left hs.pos hn⟩
  | scope hs ih => obtain ⟨n, hn⟩ := ih; exact ⟨n + 1, left hs.pos hn⟩
theorem Sub.uniq {root c d : Code} {p n : Nat} (h : Sub root p c) (k : codeAt n root p = some d) : c = d := by
  obtain ⟨m, hm⟩ := h.at
  have h1 := codeAt_le hm n
  have h2 := codeAt_le k m
  rw [Nat.add_comm] at h1
  rw [h1] at h2
  simpa using h2
/- the loop's body at a place of a function -/
def bodyOf (P : Program) (f p : Nat) : Code :=
  match P.funcs.toList[f]? with
  | some fn => match fn.body with
    | some c => match codeAt 200 c p with
      | some (.loop b) => b
      | _ => .skip
    | none => .skip
  | none => .skip
/-- loops told whole: function, place, what is handed on, what it comes to -/
structure Lp where
  f : Nat
  p : Nat
  S : LSpec
  F : LFn
noncomputable def lpOf (P : Program) : List Lp → FuncId → Nat → Option (KTm → KSt → Tell)
  | [], _, _ => none
  | l :: ls, f, p => cond (Nat.beq l.f f && Nat.beq l.p p) (some (mkLp P l.S l.F)) (lpOf P ls f p)
/-- a loop that is told rightly -/
def Lp.Ok (P : Program) (l : Lp) : Prop := ∃ cfg L n, PcOk P cfg.pc ∧ LpAll P cfg ∧
  ∀ vs rs e vs' rs', StOk P l.S vs rs → (l.F vs rs).ev = some (e, vs', rs') → ∃ m, iterK (roundK P cfg L n l.f l.p (bodyOf P l.f l.p) l.S) m vs rs = some (e, vs', rs')
/-- is there a loop at each place? -/
def loopThere (P : Program) (f p : Nat) : Bool :=
  match P.funcs.toList[f]? with
  | some fn => match fn.body with
    | some c => match codeAt 200 c p with
      | some (.loop _) => true
      | _ => false
    | none => false
  | none => false
theorem lp_all (hP : P.funcs.toList.all funcOk = true) (hm : P.follows .mixedOrders = true) {pc : FuncId → Option (List KV → KR KV)} : ∀ {ls : List Lp}, (∀ l ∈ ls, Lp.Ok P l ∧ loopThere P l.f l.p = true) → LpAll P ⟨pc, lpOf P ls⟩
  | [], _ => fun f fn c hf hb p F body h => by simp [lpOf] at h
  | l :: ls, hl => fun f fn c hf hb p F body h hs N hc => by
    have h : lpOf P (l :: ls) f p = some F := h
    unfold lpOf at h
    cases hk : (Nat.beq l.f f && Nat.beq l.p p) with
    | false =>
      rw [hk] at h
      exact lp_all hP hm (pc := pc) (fun l' hl' => hl l' (List.mem_cons_of_mem _ hl')) f fn c hf hb p F body h hs N hc
    | true =>
      rw [hk] at h
      simp only [cond_true, Option.some.injEq] at h
      subst h
      simp only [Bool.and_eq_true] at hk
      have e1 := Nat.eq_of_beq_eq_true hk.1
      have e2 := Nat.eq_of_beq_eq_true hk.2
      obtain ⟨⟨cfg, L, n, hpc, hlp, hF⟩, hth⟩ := hl l (by simp)
      rw [e1, e2] at hF hth
      have hf' : P.funcs.toList[f]? = some fn := by simpa using hf
      have hbody : bodyOf P f p = body := by
        unfold loopThere at hth
        unfold bodyOf
        simp only [hf', hb] at hth ⊢
        split at hth
        · rename_i b hat
          have := hs.uniq hat
          simp at this
          exact this.symm
        · simp at hth
      rw [hbody] at hF
      exact loop_told hP hm hpc hlp hf hb hs hc hF
end Go.K
