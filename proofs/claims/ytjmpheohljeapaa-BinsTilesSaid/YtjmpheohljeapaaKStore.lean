/-
  The machine K's operations on the store do what the abstract machine's do.
-/
import Derived.Test.YtjmpheohljeapaaKEq
namespace Go.K
open Go Go.Abs
variable {P : Program} {E : Env}

structure StEv (P : Program) (E : Env) (A : KSt) (B : St) (E' : Env) (A' : KSt) (B' : St) : Prop where
  sim : KSim P E' A' B'
  le : E.le E'
  next : A.next ≤ A'.next
  keep : ∀ x, x < B.next → (∀ b, E.κ b ≠ some x) → B'.get x = B.get x
  new : ∀ b x, E'.κ b = some x → E.κ b = some x ∨ B.next ≤ x
  newZ : ∀ b r, E'.z b = some r → E.z b = some r ∨ B.next ≤ b
  newF : ∀ b g, E'.φ b = some g → E.φ b = some g ∨ B.next ≤ g
  keepF : ∀ g, g < B.next → (∀ b, E.φ b ≠ some g) → B'.members g = B.members g
theorem StEv.ev {base : Nat} {E' : Env} {A A' : KSt} {B B' : St} {ρ ρ' : Ren} {w w' : World} (h : StEv P E A B E' A' B') (g : Goes base ρ B w ρ' B' w') : Ev P base E A B ρ w E' A' B' ρ' w' :=
  ⟨h.sim, g, h.le, h.next, h.keep, h.new, h.newZ, fun b g e => (h.newF b g e).imp (fun e => ⟨b, e⟩) id, h.keepF⟩

def KOk (P : Program) (o : Oper) : KIns → Prop
  | .pure f xs => ∀ (E : Env) (ρ : Ren) (ev : Operand → KV) (ev' : Operand → Value) (v : KV), (∀ x ∈ xs, VC P E ρ (ev x) (ev' x)) → Gives (f (xs.map ev)) v → ∃ v', VC P E ρ v v' ∧ ∀ w, (execOp ev' o).run P w = .ok (.value v') w
  | .read f xs => ∀ (E : Env) (A : KSt) (B : St) (ρ : Ren) (base : Nat) (w : World) (ev : Operand → KV) (ev' : Operand → Value) (v : KV), KJ P E A B ρ base w → (∀ x ∈ xs, VC P E ρ (ev x) (ev' x)) → Gives (f A (xs.map ev)) v →
      ∃ v', VC P E ρ v v' ∧ (execOp ev' o).run P w = .ok (.value v') w
  | .look f xs => ∀ (E : Env) (A : KSt) (B : St) (ρ : Ren) (base : Nat) (w : World) (ev : Operand → KV) (ev' : Operand → Value) (v : KV), KJ P E A B ρ base w → (∀ x ∈ xs, VC P E ρ (ev x) (ev' x)) → Gives (f (xs.map ev)) v →
      ∃ E' B' ρ' v' nx w', (execOp ev' o).run P w = .ok nx w' ∧ IsVal v' nx ∧ VC P E' ρ' v v' ∧ Ev P base E A B ρ w E' A B' ρ' w'
  | .act f xs => ∀ (E : Env) (A A' : KSt) (B : St) (ρ : Ren) (base : Nat) (w : World) (ev : Operand → KV) (ev' : Operand → Value) (v : KV), KJ P E A B ρ base w → (∀ x ∈ xs, VC P E ρ (ev x) (ev' x)) → Gives (f A (xs.map ev)) (v, A') →
      ∃ E' B' ρ' v' nx w', (execOp ev' o).run P w = .ok nx w' ∧ IsVal v' nx ∧ VC P E' ρ' v v' ∧ Ev P base E A B ρ w E' A' B' ρ' w'
  | _ => True

/-- the operands, in the middle -/
theorem mid {ρ : Ren} {ev : Operand → KV} {ev' : Operand → Value} {xs : List Operand} (h : ∀ x ∈ xs, VC P E ρ (ev x) (ev' x)) :
    ∃ em : Operand → Value, VKL P E (xs.map ev) (xs.map em) ∧ EvOn ρ em ev' xs := by
  classical
  refine ⟨fun x => if hx : VC P E ρ (ev x) (ev' x) then hx.choose else undef, ?_, ?_⟩
  · induction xs with
    | nil => exact .nil
    | cons x xs ih =>
      refine .cons ?_ (ih fun y hy => h y (by simp [hy]))
      have hx := h x (by simp)
      simp only [dif_pos hx]
      exact hx.choose_spec.1
  · intro x hx
    have hx := h x hx
    simp only [dif_pos hx]
    exact hx.choose_spec.2
theorem lift_pure {o : Oper} {f : FP} {g : List Value → Option Value} {xs : List Operand} (hc : compile P o.op = .pure g xs) (hs : SimP P f g) : KOk P o (.pure f xs) := by
  intro E ρ ev ev' v hv hg
  obtain ⟨em, h1, h2⟩ := mid hv
  obtain ⟨u, h3, h4⟩ := hs E _ _ v h1 hg
  have hok := compile_ok P o
  rw [hc] at hok
  obtain ⟨v', h5, h6⟩ := hok ρ em ev' u h2 h3
  exact ⟨v', ⟨u, h4, h5⟩, h6⟩
def SimR (P : Program) (f : FR) (g : St → List Value → Option Value) : Prop :=
  ∀ (E : Env) (A : KSt) (B : St) (vs : List KV) (us : List Value) (v : KV), KSim P E A B → VKL P E vs us → Gives (f A vs) v → ∃ u, g B us = some u ∧ VK P E v u
theorem lift_read {o : Oper} {f : FR} {g : St → List Value → Option Value} {xs : List Operand} (hc : compile P o.op = .read g xs) (hs : SimR P f g) : KOk P o (.read f xs) := by
  intro E A B ρ base w ev ev' v hj hv hg
  obtain ⟨em, h1, h2⟩ := mid hv
  obtain ⟨u, h3, h4⟩ := hs E A B _ _ v hj.k h1 hg
  have hok := compile_ok P o
  rw [hc] at hok
  obtain ⟨v', h5, h6⟩ := hok ρ B base w em ev' u hj.s.rel h2 h3
  exact ⟨v', ⟨u, h4, h5⟩, h6⟩
def SimA (P : Program) (f : FA) (g : St → List Value → Option (Value × St)) : Prop :=
  ∀ (E : Env) (A A' : KSt) (B : St) (vs : List KV) (us : List Value) (v : KV), KSim P E A B → VKL P E vs us → Gives (f A vs) (v, A') → ∃ u B' E', g B us = some (u, B') ∧ VK P E' v u ∧ StEv P E A B E' A' B'
theorem lift_act {o : Oper} {f : FA} {g : St → List Value → Option (Value × St)} {xs : List Operand} (hc : compile P o.op = .act g xs) (hs : SimA P f g) : KOk P o (.act f xs) := by
  intro E A A' B ρ base w ev ev' v hj hv hg
  obtain ⟨em, h1, h2⟩ := mid hv
  obtain ⟨u, B', E', h3, h4, h5⟩ := hs E A A' B _ _ v hj.k h1 hg
  have hok := compile_ok P o
  rw [hc] at hok
  obtain ⟨ρ', v', nx, w', h6, h7, h8, h9⟩ := hok ρ B B' base w em ev' u hj.s h2 h3
  exact ⟨E', B', ρ', v', nx, w', h6, h7, ⟨u, h4, h8⟩, h5.ev h9⟩
/-- a look that the machine below does as an act -/
def SimL (P : Program) (f : FP) (g : St → List Value → Option (Value × St)) : Prop :=
  ∀ (E : Env) (A : KSt) (B : St) (vs : List KV) (us : List Value) (v : KV), KSim P E A B → VKL P E vs us → Gives (f vs) v → ∃ u B' E', g B us = some (u, B') ∧ VK P E' v u ∧ StEv P E A B E' A B'
theorem lift_look {o : Oper} {f : FP} {g : St → List Value → Option (Value × St)} {xs : List Operand} (hc : compile P o.op = .act g xs) (hs : SimL P f g) : KOk P o (.look f xs) := by
  intro E A B ρ base w ev ev' v hj hv hg
  obtain ⟨em, h1, h2⟩ := mid hv
  obtain ⟨u, B', E', h3, h4, h5⟩ := hs E A B _ _ v hj.k h1 hg
  have hok := compile_ok P o
  rw [hc] at hok
  obtain ⟨ρ', v', nx, w', h6, h7, h8, h9⟩ := hok ρ B B' base w em ev' u hj.s h2 h3
  exact ⟨E', B', ρ', v', nx, w', h6, h7, ⟨u, h4, h8⟩, h5.ev h9⟩
/-- what the machine below makes -/
theorem make_run {o : Oper} {g : List Value → Option (AObj × (Nat → Value))} {xs : List Operand} (hc : compile P o.op = .make g xs) {ρ : Ren} {B : St} {base : Nat} {w : World} {em ev' : Operand → Value} {obj : AObj} {mk : Nat → Value} (hs : Sim ρ B base w)
    (h2 : EvOn ρ em ev' xs) (h3 : g (xs.map em) = some (obj, mk)) : ∃ ρ' v' w', (execOp ev' o).run P w = .ok (.value v') w' ∧ VR ρ' (mk B.next) v' ∧ Goes base ρ B w ρ' (B.new obj) w' := by
  have hok := compile_ok P o
  rw [hc] at hok
  obtain ⟨c, mk', h4, h5, h6⟩ := hok ρ em ev' obj mk h2 h3
  exact ⟨_, _, _, h5 w, h6 _ _ _ (Ren.set_same _ _ _), h4.goes hs⟩
def SimM (P : Program) (f : FA) (g : List Value → Option (AObj × (Nat → Value))) : Prop :=
  ∀ (E : Env) (A A' : KSt) (B : St) (vs : List KV) (us : List Value) (v : KV), KSim P E A B → VKL P E vs us → Gives (f A vs) (v, A') → ∃ obj mk E', g us = some (obj, mk) ∧ VK P E' v (mk B.next) ∧ StEv P E A B E' A' (B.new obj)
theorem lift_make {o : Oper} {f : FA} {g : List Value → Option (AObj × (Nat → Value))} {xs : List Operand} (hc : compile P o.op = .make g xs) (hs : SimM P f g) : KOk P o (.act f xs) := by
  intro E A A' B ρ base w ev ev' v hj hv hg
  obtain ⟨em, h1, h2⟩ := mid hv
  obtain ⟨obj, mk, E', h3, h4, h5⟩ := hs E A A' B _ _ v hj.k h1 hg
  obtain ⟨ρ', v', w', h6, h7, h8⟩ := make_run hc hj.s h2 h3
  exact ⟨E', B.new obj, ρ', v', _, w', h6, rfl, ⟨_, h4, h7⟩, h5.ev h8⟩
def SimN (P : Program) (f : FP) (g : List Value → Option (AObj × (Nat → Value))) : Prop :=
  ∀ (E : Env) (A : KSt) (B : St) (vs : List KV) (us : List Value) (v : KV), KSim P E A B → VKL P E vs us → Gives (f vs) v → ∃ obj mk E', g us = some (obj, mk) ∧ VK P E' v (mk B.next) ∧ StEv P E A B E' A (B.new obj)
theorem lift_new {o : Oper} {f : FP} {g : List Value → Option (AObj × (Nat → Value))} {xs : List Operand} (hc : compile P o.op = .make g xs) (hs : SimN P f g) : KOk P o (.look f xs) := by
  intro E A B ρ base w ev ev' v hj hv hg
  obtain ⟨em, h1, h2⟩ := mid hv
  obtain ⟨obj, mk, E', h3, h4, h5⟩ := hs E A B _ _ v hj.k h1 hg
  obtain ⟨ρ', v', w', h6, h7, h8⟩ := make_run hc hj.s h2 h3
  exact ⟨E', B.new obj, ρ', v', _, w', h6, rfl, ⟨_, h4, h7⟩, h5.ev h8⟩

/-! ## New rows, and rows that are written -/
def Env.setK (E : Env) (b x : Nat) : Env := { E with κ := fun c => if c = b then some x else E.κ c }
def Env.setZ (E : Env) (b : Nat) (r : ZRow) : Env := { E with z := fun c => if c = b then some r else E.z c }
def Env.setF (E : Env) (b g : Nat) : Env := { E with φ := fun c => if c = b then some g else E.φ c }
theorem StEv.newRow {A : KSt} {B : St} {cs : List KV} {cs' : List Value} {esz : Nat} (h : KSim P E A B) (hv : VKL P E cs cs') : StEv P E A B (E.setK A.next B.next) (A.new (.row cs esz)) (B.new (.row cs' esz true none)) := by
  have hle : E.le (E.setK A.next B.next) := ⟨fun b x e => by
    have := h.dom b x e
    simp only [Env.setK]; rw [if_neg (by omega)]; exact e, fun _ _ e => e, fun _ _ e => e⟩
  refine ⟨⟨?_, ?_, ?_, ?_, ?_, ?_, ?_, ?_, ?_, ?_, ?_, ?_, ?_, ?_⟩, hle, by simp, ?_, ?_, fun _ _ e => .inl e, fun _ _ e => .inl e, fun _ _ _ => by simp⟩
  · intro b cs0 esz0 hb
    rw [KSt.get_new] at hb
    split at hb
    · rename_i e
      simp at hb
      obtain ⟨rfl, rfl⟩ := hb
      exact ⟨B.next, cs', by simp [Env.setK, e], by simp, hv.mono hle⟩
    · obtain ⟨x, c, h1, h2, h3⟩ := h.row b cs0 esz0 hb
      have := h.old b x h1
      exact ⟨x, c, hle.κ _ _ h1, by rw [St.get_new, if_neg (by omega)]; exact h2, h3.mono hle⟩
  · intro b top sz0 hb
    rw [KSt.get_new] at hb
    split at hb
    · simp at hb
    · rcases h.fam b top sz0 hb with h1 | ⟨g, h1, hp0, h2⟩
      · exact .inl h1
      · refine .inr ⟨g, h1, hp0, fun x hx c e own f k hg => ?_⟩
        rw [St.get_new] at hg
        split at hg
        · simp at hg
        · exact h2 x (by simpa using hx) c e own f k hg
  · intro b r hb
    have := h.oldz b r hb
    rw [St.get_new, if_neg (by omega)]
    exact h.z b r hb
  · intro b x hb
    simp only [Env.setK] at hb ⊢
    split at hb
    · simp at hb
      subst hb
      cases hz : E.z B.next with
      | none => rfl
      | some r => have := h.oldz _ r hz; omega
    · exact h.apart b x hb
  · intro b c x hb hc
    simp only [Env.setK] at hb hc
    split at hb <;> split at hc
    · omega
    · simp at hb; subst hb; have := h.old c _ hc; omega
    · simp at hc; subst hc; have := h.old b _ hb; omega
    · exact h.inj b c x hb hc
  · exact FamInj.new (E := E.setK A.next B.next) (fun x y g a b c d e f hx hy => h.famInj x y g a b c d e f hx hy) (.inl fun _ _ => by simp)
  · intro b x hb
    simp only [Env.setK] at hb
    rw [KSt.next_new]
    split at hb
    · omega
    · have := h.dom b x hb; omega
  · intro b g hb; have := h.domφ b g hb; rw [KSt.next_new]; omega
  · intro b o hb
    rw [KSt.get_new] at hb
    rw [KSt.next_new]
    split at hb
    · omega
    · have := h.live b o hb; omega
  · intro b x hb
    simp only [Env.setK] at hb
    rw [St.next_new]
    split at hb
    · simp at hb; omega
    · have := h.old b x hb; omega
  · intro b r hb; have := h.oldz b r hb; rw [St.next_new]; omega
  · intro b g hb; have := h.oldφ b g hb; rw [St.next_new]; omega
  · intro g hg; rw [St.next_new] at hg; rw [St.members_new]; exact h.fresh g (by omega)
  · intro g x hx; rw [St.members_new] at hx; rw [St.next_new]; have := h.mem g x hx; omega
  · intro x hx _; rw [St.get_new, if_neg (by omega)]
  · intro b x hb
    simp only [Env.setK] at hb
    split at hb
    · simp at hb; exact .inr (by omega)
    · exact .inl hb
theorem StEv.addZ {A : KSt} {B : St} {cs' : List Value} {esz : Nat} (h : KSim P E A B) : StEv P E A B (E.setZ B.next ⟨cs', esz, true, none⟩) A (B.new (.row cs' esz true none)) := by
  have hle : E.le (E.setZ B.next ⟨cs', esz, true, none⟩) := ⟨fun _ _ e => e, fun b r e => by
    have := h.oldz b r e
    simp only [Env.setZ]; rw [if_neg (by omega)]; exact e, fun _ _ e => e⟩
  refine ⟨⟨?_, ?_, ?_, ?_, ?_, ?_, ?_, ?_, ?_, ?_, ?_, ?_, ?_, ?_⟩, hle, Nat.le_refl _, ?_, ?_, fun b r e => by
    simp only [Env.setZ] at e
    split at e
    · exact .inr (by omega)
    · exact .inl e, fun _ _ e => .inl e, fun _ _ _ => by simp⟩
  · intro b cs0 esz0 hb
    obtain ⟨x, c, h1, h2, h3⟩ := h.row b cs0 esz0 hb
    have := h.old b x h1
    exact ⟨x, c, hle.κ _ _ h1, by rw [St.get_new, if_neg (by omega)]; exact h2, h3.mono hle⟩
  · intro b top sz0 hb
    rcases h.fam b top sz0 hb with h1 | ⟨g, h1, hp0, h2⟩
    · exact .inl h1
    · refine .inr ⟨g, h1, hp0, fun x hx c e own f k hg => ?_⟩
      rw [St.get_new] at hg
      split at hg
      · simp at hg
      · exact h2 x (by simpa using hx) c e own f k hg
  · intro b r hb
    simp only [Env.setZ] at hb
    split at hb
    · rename_i e
      simp at hb
      subst hb e
      simp
    · have := h.oldz b r hb
      rw [St.get_new, if_neg (by omega)]
      exact h.z b r hb
  · intro b x hb
    have := h.old b x hb
    simp only [Env.setZ]
    rw [if_neg (by omega)]
    exact h.apart b x hb
  · exact h.inj
  · exact h.famInj
  · exact h.dom
  · exact h.domφ
  · exact h.live
  · intro b x hb; have := h.old b x hb; rw [St.next_new]; omega
  · intro b r hb
    simp only [Env.setZ] at hb
    rw [St.next_new]
    split at hb
    · omega
    · have := h.oldz b r hb; omega
  · intro b g hb; have := h.oldφ b g hb; rw [St.next_new]; omega
  · intro g hg; rw [St.next_new] at hg; rw [St.members_new]; exact h.fresh g (by omega)
  · intro g x hx; rw [St.members_new] at hx; rw [St.next_new]; have := h.mem g x hx; omega
  · intro x hx _; rw [St.get_new, if_neg (by omega)]
  · intro b x hb; exact .inl hb
theorem StEv.putRow {A : KSt} {B : St} {b x esz : Nat} {cs : List KV} {cs' : List Value} (h : KSim P E A B) (hb : ∃ cs0 e, A.get b = some (.row cs0 e)) (hx : E.κ b = some x) (hv : VKL P E cs cs') : StEv P E A B E (A.put b (.row cs esz)) (B.put x (.row cs' esz true none)) := by
  refine ⟨⟨?_, ?_, ?_, h.apart, h.inj, h.famInj.put (.inl fun _ _ => by simp), h.dom, h.domφ, ?_, h.old, h.oldz, h.oldφ, ?_, ?_⟩, Env.le_refl _, Nat.le_refl _, ?_, fun _ _ e => .inl e, fun _ _ e => .inl e, fun _ _ e => .inl e, fun _ _ _ => by simp⟩
  · intro c cs0 esz0 hc
    rw [KSt.get_put] at hc
    split at hc
    · rename_i e
      simp at hc
      obtain ⟨rfl, rfl⟩ := hc
      exact ⟨x, cs', by rw [e]; exact hx, by simp, hv⟩
    · rename_i hne
      obtain ⟨y, d, h1, h2, h3⟩ := h.row c cs0 esz0 hc
      refine ⟨y, d, h1, ?_, h3⟩
      rw [St.get_put, if_neg (fun e => hne (h.inj c b x (by rw [← e]; exact h1) hx))]
      exact h2
  · intro c top sz0 hc
    rw [KSt.get_put] at hc
    split at hc
    · simp at hc
    · rcases h.fam c top sz0 hc with h1 | ⟨g, h1, hp0, h2⟩
      · exact .inl h1
      · refine .inr ⟨g, h1, hp0, fun y hy d e own f k hg => ?_⟩
        rw [St.get_put] at hg
        split at hg
        · simp at hg
        · exact h2 y (by simpa using hy) d e own f k hg
  · intro c r hc
    rw [St.get_put, if_neg]
    · exact h.z c r hc
    · intro e
      have := h.apart b x hx
      rw [← e, hc] at this
      simp at this
  · intro c o hc
    rw [KSt.get_put] at hc
    rw [KSt.next_put]
    split at hc
    · rename_i e
      obtain ⟨cs0, e0, hb⟩ := hb
      rw [e]; exact h.live b _ hb
    · exact h.live c o hc
  · intro g hg; rw [St.members_put]; exact h.fresh g hg
  · intro g y hy; rw [St.members_put] at hy; exact h.mem g y hy
  · intro y hy hn
    rw [St.get_put, if_neg (fun e => hn b (by rw [e]; exact hx))]

theorem simBox {n : Nat} : SimM P (kBox n) (fBox n) := by
  intro E A A' B vs us v h hv hg
  unfold kBox at hg
  split at hg
  · rename_i x
    obtain ⟨y, rfl, h1⟩ := hv.one_inv
    obtain ⟨ho, hg⟩ := hg.cond
    have hg : (KV.ptr A.next 0, A.new (.row x.cells n)) = (v, A') := hg
    simp only [Prod.mk.injEq] at hg
    obtain ⟨rfl, rfl⟩ := hg
    have hc := h1.cells (oneAll_known ho)
    have hsc : y.cells.toList.all scalar = true := List.all_eq_true.2 (hc.scalar ho)
    exact ⟨varObj n y, atNew, E.setK A.next B.next, by simp [fBox, hsc], .mkPtr (by simp [Env.setK]), StEv.newRow h hc⟩
  · exact hg.elim
theorem simAlloc {t : TypeId} {z : Value} (hz : zero? P t = some z) (hf : flat z = true) (hsc : z.cells.toList.all scalar = true) (ho : oneAll (ofV z).cells = true) : SimM P (kAllocWith (eszOf P t) (ofV z).cells) (fAlloc P t) := by
  intro E A A' B vs us v h hv hg
  have hg : (KV.ptr A.next 0, A.new (.row (ofV z).cells (eszOf P t))) = (v, A') := hg
  simp only [Prod.mk.injEq] at hg
  obtain ⟨rfl, rfl⟩ := hg
  exact ⟨varObj (eszOf P t) z, atNew, E.setK A.next B.next, by simp only [fAlloc, hz, Option.bind_some, hf, hsc, Bool.and_self, cond_true], .mkPtr (by simp [Env.setK]), StEv.newRow h (ofV_cells ho)⟩
theorem repeat_rel {cs : List KV} {l : List Value} (h : VKL P E cs l) : ∀ n, VKL P E (repeatK cs n) (repeatL l n)
  | 0 => .nil
  | n + 1 => VKL.append h (repeat_rel h n)
theorem simMakeSlice {n b : Nat} {z : Value} (ho : oneAll (ofV z).cells = true) : SimM P (kMakeSlice n b (ofV z).cells) (fMakeSlice n b z) := by
  intro E A A' B vs us v h hv hg
  unfold kMakeSlice at hg
  split at hg
  · rename_i k l k' c
    obtain ⟨x, y, rfl, h1, h2⟩ := hv.two_inv
    have := h1.int_inv; subst this
    have := h2.int_inv; subst this
    obtain ⟨hc, hg⟩ := Gives.chk hg
    simp only [Prod.mk.injEq] at hg
    obtain ⟨rfl, rfl⟩ := hg
    simp only [Bool.and_eq_true, decide_eq_true_eq] at hc
    obtain ⟨⟨h3, h4⟩, h5⟩ := hc
    obtain ⟨l', rfl⟩ := Int.eq_ofNat_of_zero_le h3
    obtain ⟨c', rfl⟩ := Int.eq_ofNat_of_zero_le (Int.le_trans h3 h4)
    have h6 : Nat.ble l' c' = true := Nat.ble_eq_true_of_le (by omega)
    refine ⟨.row (repeatL z.cells.toList c') n true none, fun k => .slice (some ⟨k, 0, none⟩) l' c', E.setK A.next B.next, ?_, .mkSl (by simp [Env.setK]), StEv.newRow h (repeat_rel (ofV_cells ho) c')⟩
    have h5 : Nat.ble (b * c') 281474976710656 = true := h5
    show cond (Nat.ble l' c' && Nat.ble (b * c') 281474976710656) _ _ = _
    rw [h6, h5]
    rfl
  · exact hg.elim
theorem KSim.rowAt {A : KSt} {B : St} (h : KSim P E A B) {b x : Nat} {cs : List KV} (hr : rowAt A b = some cs) (hx : E.κ b = some x) : ∃ cs' esz, B.get x = some (.row cs' esz true none) ∧ VKL P E cs cs' := by
  unfold K.rowAt at hr
  split at hr
  · rename_i c e hg
    simp at hr
    subst hr
    obtain ⟨y, d, h1, h2, h3⟩ := h.row _ _ _ hg
    rw [hx] at h1
    simp at h1
    subst h1
    exact ⟨d, _, h2, h3⟩
  · simp at hr
theorem leaves_length (e : KV) : ∀ (cs : List CK) (k : Nat), (leaves e cs k).length = cs.length
  | [], _ => rfl
  | c :: cs, k => by simp [leaves, leaves_length e cs]
theorem kindOk_leaf {c : CK} {v : KV} (h : kindOk c v = true) : leaf c v = v := by
  cases c with
  | int k => cases v <;> simp [kindOk] at h; subst h; rfl
  | bool => cases v <;> simp [kindOk] at h; rfl
  | str => cases v <;> simp [kindOk] at h; rfl
  | slice t =>
    cases v <;> simp [kindOk] at h
    rename_i T m n es acc
    cases m <;> simp at h
    subst h
    rfl
  | other => cases v <;> simp [kindOk] at h
theorem kindsOk_get : ∀ {ks : List CK} {cs : List KV} {i : Nat} {c : CK}, kindsOk ks cs = true → ks[i]? = some c → ∃ v, cs[i]? = some v ∧ kindOk c v = true
  | [], _, i, c, _, h => by simp at h
  | _ :: _, [], _, _, h, _ => by simp [kindsOk] at h
  | k :: ks, v :: cs, 0, c, h, e => by
    simp only [kindsOk, Bool.and_eq_true] at h
    simp at e
    subst e
    exact ⟨v, rfl, h.1⟩
  | k :: ks, v :: cs, i + 1, c, h, e => by
    simp only [kindsOk, Bool.and_eq_true] at h
    obtain ⟨u, h1, h2⟩ := kindsOk_get (i := i) h.2 (by simpa using e)
    exact ⟨u, by simpa using h1, h2⟩
theorem elemsOk_get : ∀ {l : Lay} {es : List KV} {i : Nat} {e : KV}, elemsOk l es = true → es[i]? = some e → elemOk l e = true
  | l, [], i, e, _, h => by simp at h
  | l, x :: es, 0, e, h, he => by
    simp only [elemsOk, Bool.and_eq_true] at h
    simp at he
    subst he
    exact h.1
  | l, x :: es, i + 1, e, h, he => by
    simp only [elemsOk, Bool.and_eq_true] at h
    exact elemsOk_get h.2 (by simpa using he)
theorem elemOk_kinds {l : Lay} {e : KV} (h : elemOk l e = true) : kindsOk l.ks e.cells = true ∧ knownK e = true := by
  cases e <;> simp [elemOk] at h <;> first | exact ⟨h.2, rfl⟩ | skip
  obtain ⟨h1, h2⟩ := h
  cases hk : l.ks with
  | nil => rw [hk] at h2; simp [kindsOk] at h2
  | cons c cs => rw [hk] at h2; cases c <;> simp [kindsOk, kindOk] at h2
/-- the leaves of a part are its cells -/
theorem leaves_eq {e : KV} {ks : List CK} (hk : kindsOk ks e.cells = true) : ∀ {cs : List CK} {k : Nat}, (∀ m c, cs[m]? = some c → ks[k + m]? = some c) → leaves e cs k = (e.cells.drop k).take cs.length
  | [], k, _ => by simp [leaves]
  | c :: cs, k, h => by
    obtain ⟨v, h1, h2⟩ := kindsOk_get hk (by simpa using h 0 c rfl)
    have hlt : k < e.cells.length := (List.getElem?_eq_some_iff.1 h1).1
    have ih := leaves_eq hk (cs := cs) (k := k + 1) (fun m d hm => by have := h (m + 1) d (by simpa using hm); rwa [show k + (m + 1) = k + 1 + m by omega] at this)
    simp only [leaves]
    have e1 : e.cells.getD k .unk = v := by simp [List.getD, h1]
    rw [e1, kindOk_leaf h2]
    rw [show Nat.succ k = k + 1 from rfl, ih, List.drop_eq_getElem_cons hlt]
    have e2 : e.cells[k] = v := by
      have := List.getElem?_eq_getElem hlt
      rw [this] at h1
      simpa using h1
    simp [e2]
theorem simLoad {t : TypeId} : SimR P (kLoad P t) (fLoad P t) := by
  intro E A B vs us v h hv hg
  unfold kLoad at hg
  split at hg
  · rename_i b off
    obtain ⟨y, rfl, h1⟩ := hv.one_inv
    obtain ⟨x, hx, rfl⟩ := h1.ptr_inv
    split at hg
    · rename_i ag n ha hn
      split at hg
      · rename_i l hl
        obtain ⟨cs, h2, h3⟩ := Option.bind_eq_some_iff.1 hl
        obtain ⟨cs', esz, h4, h5⟩ := h.rowAt h2 hx
        obtain ⟨r, h6, h7, _⟩ := h5.takeK h3
        cases ag with
        | true =>
          have hg : KV.agg l = v := hg
          subst hg
          refine ⟨.agg ⟨r⟩, ?_, .mkAgg h7⟩
          simp [fLoad, loadAt, ha, hn, St.loadN, plainAddr, rowCells, h4, h6]
        | false =>
          rw [cond_false] at hg
          split at hg
          · rename_i u
            have hg : u = v := hg
            subst hg
            obtain ⟨w, rfl, h8⟩ := h7.one_inv
            have hlen : n = 1 := by
              obtain ⟨e, hle⟩ := takeK_eq h3
              have := congrArg List.length e
              rw [List.length_take, Nat.min_eq_left hle] at this
              simpa using this.symm
            subst hlen
            exact ⟨w, by simp [fLoad, loadAt, ha, St.loadN, plainAddr, rowCells, h4, h6], h8⟩
          · exact hg.elim
      · exact hg.elim
    · exact hg.elim
  · rename_i T Tc i k es acc
    obtain ⟨y, rfl, h1⟩ := hv.one_inv
    obtain ⟨hc, hg⟩ := hg.cond
    have hg : mkV (layF P t).agg (leaves (acc i) (layF P t).ks k) = v := hg
    subst hg
    simp only [Bool.and_eq_true, decide_eq_true_eq] at hc
    obtain ⟨⟨⟨⟨hTc, hpl⟩, ha⟩, hn⟩, hag1⟩ := hc
    have := Nat.eq_of_beq_eq_true hTc
    subst this
    obtain ⟨ht, es', h2, hi, hw, b, off, r, rfl, h4, h5⟩ := h1.tp_inv
    have hacc := ht.acc i hi
    have hei : es[i]? = some (acc i) := by rw [hacc]; simp [List.getD, hi]
    have hel := elemsOk_get ht.typed hei
    obtain ⟨hkinds, hknown⟩ := elemOk_kinds hel
    obtain ⟨u, h6, h7⟩ := h2.get hei
    obtain ⟨hsz, hcell⟩ := h5 i u h6
    have hlv := leaves_eq hkinds (cs := (layF P Tc).ks) (k := k) hw.is
    rw [hlv]
    have hcs := h7.cells hknown
    have hlen : (acc i).cells.length = szOf P T := by have := hcs.length; simp at this; omega
    have hfit : (layF P Tc).ks.length ≤ (acc i).cells.length - k := by
      have := congrArg List.length hlv
      rw [leaves_length] at this
      simp at this
      omega
    -- the cells, below
    have hz := h.z b r h4
    have hrow : ∀ m, m < (layF P Tc).ks.length → r.cs[off + i * szOf P T + k + m]? = u.cells.toList[k + m]? := by
      intro m hm
      have hlt : k + m < u.cells.size := by omega
      have := hcell (k + m) u.cells[k + m] (by simp [hlt])
      rw [show off + i * szOf P T + (k + m) = off + i * szOf P T + k + m by omega] at this
      rw [this]
      simp [hlt]
    have htake : takeN (layF P Tc).ks.length (dropN (off + i * szOf P T + k) r.cs) = some ((u.cells.toList.drop k).take (layF P Tc).ks.length) := by
      have hle : (layF P Tc).ks.length ≤ (r.cs.drop (off + i * szOf P T + k)).length := by
        cases hl0 : (layF P Tc).ks.length with
        | zero => omega
        | succ q =>
          have := hrow q (by omega)
          have hlt : k + q < u.cells.toList.length := by simp; omega
          rw [List.getElem?_eq_getElem hlt] at this
          have := (List.getElem?_eq_some_iff.1 this).1
          simp
          omega
      rw [dropN_eq, takeN_of hle]
      congr 1
      apply List.ext_getElem?
      intro m
      rw [List.getElem?_take, List.getElem?_take]
      split
      · rename_i hm
        rw [List.getElem?_drop, List.getElem?_drop]
        exact hrow m hm
      · rfl
    have hrel : VKL P E ((acc i).cells.drop k |>.take (layF P Tc).ks.length) ((u.cells.toList.drop k).take (layF P Tc).ks.length) := (hcs.drop k).take _
    cases hag : (layF P Tc).agg with
    | true =>
      rw [hag] at ha
      refine ⟨.agg ⟨(u.cells.toList.drop k).take (layF P Tc).ks.length⟩, ?_, .mkAgg hrel⟩
      simp [fLoad, loadAt, ha, hn, St.loadN, plainAddr, rowCells, hz, htake]
    | false =>
      rw [hag] at ha
      have hl1 : (layF P Tc).ks.length = 1 := by
        rw [hag] at hag1
        exact Nat.eq_of_beq_eq_true (by simpa using hag1)
      rw [hl1] at htake hrel
      have hlt : k < (acc i).cells.length := by omega
      rw [hl1]
      rw [List.drop_eq_getElem_cons hlt] at hrel ⊢
      simp only [List.take_succ_cons, List.take_zero] at hrel ⊢
      obtain ⟨w, h8, h9⟩ := hrel.one_inv
      refine ⟨w, ?_, h9⟩
      simp [fLoad, loadAt, ha, St.loadN, plainAddr, rowCells, hz, htake, h8]
  · exact hg.elim
theorem simStore {t : TypeId} : SimA P (kStore P t) (fStore P t) := by
  intro E A A' B vs us v h hv hg
  unfold kStore at hg
  split at hg
  · rename_i b off x
    obtain ⟨y, z, rfl, h1, h2⟩ := hv.two_inv
    obtain ⟨c, hx, rfl⟩ := h1.ptr_inv
    obtain ⟨hc, hg⟩ := hg.cond
    simp only [Bool.and_eq_true, decide_eq_true_eq] at hc
    obtain ⟨hsz, ho⟩ := hc
    split at hg
    · rename_i cs esz hrow
      split at hg
      · rename_i cs' hw
        have hg : (undefK, A.put b (.row cs' esz)) = (v, A') := hg
        simp only [Prod.mk.injEq] at hg
        obtain ⟨rfl, rfl⟩ := hg
        obtain ⟨c', d, e1, e2, e3⟩ := h.row b cs esz hrow
        rw [hx] at e1
        simp at e1
        subst e1
        have hcs := h2.cells (oneAll_known ho)
        obtain ⟨r, e4, e5⟩ := VKL.writeK hw e3 hcs
        have hall : z.cells.toList.all scalar = true := List.all_eq_true.2 (hcs.scalar ho)
        have hsz' : some z.cells.size = size? P t := by rw [← hsz, cells_size h2 (oneAll_known ho)]
        refine ⟨undef, B.put c (.row r esz true none), E, ?_, .undef, StEv.putRow h ⟨_, _, hrow⟩ hx e5⟩
        simp [fStore, storeAt, hsz', St.storeN, plainAddr, hall, e2, e4, St.killKin]
      · exact hg.elim
    · exact hg.elim
  · exact hg.elim
end Go.K
