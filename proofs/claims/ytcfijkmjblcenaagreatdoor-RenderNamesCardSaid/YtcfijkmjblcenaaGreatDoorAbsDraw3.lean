/-
  A region that draws its order: the invariant, and each step of it.
-/
import Derived.Test.YtcfijkmjblcenaaGreatDoorAbsDraw2
namespace Go.Abs
noncomputable section
open Go

def isAct (r : Rec) : Prop := ∃ B, r.did = .act B

theorem lastE_some : ∀ {R : List Rec} {e : Nat}, R.Pairwise (fun x y => y.i < x.i) → lastE R = some e → ∃ r ∈ R, r.i = e ∧ isAct r ∧ ∀ s ∈ R, isAct s → s.i ≤ e
  | [], e, _, h => by simp [lastE] at h
  | r :: R, e, hp, h => by
    rw [List.pairwise_cons] at hp
    simp only [lastE] at h
    split at h
    · rename_i B hB
      simp at h; subst h
      refine ⟨r, by simp, rfl, ⟨B, hB⟩, fun s hs _ => ?_⟩
      rcases List.mem_cons.1 hs with rfl | hs
      · exact Nat.le_refl _
      · exact Nat.le_of_lt (hp.1 s hs)
    · rename_i hn
      obtain ⟨x, hx, h1, h2, h3⟩ := lastE_some hp.2 h
      refine ⟨x, by simp [hx], h1, h2, fun s hs ha => ?_⟩
      rcases List.mem_cons.1 hs with rfl | hs
      · obtain ⟨B, hB⟩ := ha; exact absurd hB (hn B)
      · exact h3 s hs ha
theorem lastE_none : ∀ {R : List Rec}, lastE R = none → ∀ s ∈ R, ¬ isAct s
  | [], _, s, hs, _ => by simp at hs
  | r :: R, h, s, hs, ha => by
    simp only [lastE] at h
    split at h
    · simp at h
    · rename_i hn
      rcases List.mem_cons.1 hs with rfl | hs
      · obtain ⟨B, hB⟩ := ha; exact hn B hB
      · exact lastE_none h s hs ha
theorem postOf_eq {A0 : St} {e : Nat} : ∀ {R : List Rec} {r : Rec} {B : St}, (∀ s ∈ R, s.i = e → s = r) → r ∈ R → r.i = e → r.did = .act B → postOf A0 e R = B
  | [], r, B, _, h, _, _ => by simp at h
  | x :: R, r, B, hu, hr, he, hB => by
    simp only [postOf]
    by_cases hx : x.i = e
    · have := hu x (by simp) hx
      subst this
      rw [hB]
      simp [hx]
    · have hr' : r ∈ R := by
        rcases List.mem_cons.1 hr with rfl | h
        · exact absurd he hx
        · exact h
      have ih := postOf_eq (A0 := A0) (fun s hs => hu s (by simp [hs])) hr' he hB
      have hb : Nat.beq x.i e = false := by
        cases hb : Nat.beq x.i e with
        | false => rfl
        | true => exact absurd (Nat.eq_of_beq_eq_true hb) hx
      split
      · rw [hb, cond_false]; exact ih
      · exact ih

theorem commit_get {sel : Nat → Bool} {A : St} {x : Nat} {o : AObj} : ∀ {R : List Rec}, (commit sel A R).get x = some o → (∃ r ∈ R, sel r.i = true ∧ r.did = .make x o) ∨ (A.get x = some o ∧ ∀ r ∈ R, sel r.i = true → ∀ o', r.did ≠ .make x o')
  | [], h => .inr ⟨h, by simp⟩
  | r :: R, h => by
    simp only [commit] at h
    split at h
    · rename_i id ob hd
      cases hs : sel r.i with
      | true =>
        rw [hs, cond_true] at h
        simp only [St.lay, St.get, Trie.get_set] at h
        by_cases hx : x = id
        · rw [if_pos hx] at h
          simp at h; subst h; subst hx
          exact .inl ⟨r, by simp, hs, hd⟩
        · rw [if_neg hx] at h
          rcases commit_get (R := R) h with ⟨r', h1, h2, h3⟩ | ⟨h1, h2⟩
          · exact .inl ⟨r', by simp [h1], h2, h3⟩
          · refine .inr ⟨h1, fun r' hr' hs' o' => ?_⟩
            rcases List.mem_cons.1 hr' with rfl | hr'
            · rw [hd]; intro e; simp at e; exact hx e.1.symm
            · exact h2 r' hr' hs' o'
      | false =>
        rw [hs, cond_false] at h
        rcases commit_get (R := R) h with ⟨r', h1, h2, h3⟩ | ⟨h1, h2⟩
        · exact .inl ⟨r', by simp [h1], h2, h3⟩
        · refine .inr ⟨h1, fun r' hr' hs' o' => ?_⟩
          rcases List.mem_cons.1 hr' with rfl | hr'
          · rw [hs] at hs'; simp at hs'
          · exact h2 r' hr' hs' o'
    · rename_i hn
      rcases commit_get (R := R) h with ⟨r', h1, h2, h3⟩ | ⟨h1, h2⟩
      · exact .inl ⟨r', by simp [h1], h2, h3⟩
      · refine .inr ⟨h1, fun r' hr' hs' o' => ?_⟩
        rcases List.mem_cons.1 hr' with rfl | hr'
        · exact hn x o'
        · exact h2 r' hr' hs' o'
theorem commit_other {sel : Nat → Bool} {A : St} {x : Nat} : ∀ {R : List Rec}, (∀ r ∈ R, sel r.i = true → ∀ o', r.did ≠ .make x o') → (commit sel A R).get x = A.get x
  | [], _ => rfl
  | r :: R, h => by
    have ih := commit_other (sel := sel) (A := A) (x := x) (R := R) fun r' hr' => h r' (by simp [hr'])
    simp only [commit]
    split
    · rename_i id ob hd
      cases hs : sel r.i with
      | true =>
        rw [cond_true]
        simp only [St.lay, St.get, Trie.get_set]
        rw [if_neg (fun e => by subst e; exact h r (by simp) hs ob hd)]
        exact ih
      | false => rw [cond_false]; exact ih
    · exact ih
theorem commit_rest {sel : Nat → Bool} {A : St} : ∀ {R : List Rec}, (commit sel A R).members = A.members ∧ (commit sel A R).low = A.low ∧ (commit sel A R).next = A.next
  | [] => ⟨rfl, rfl, rfl⟩
  | r :: R => by
    have ih := commit_rest (sel := sel) (A := A) (R := R)
    simp only [commit]
    split
    · cases sel r.i with
      | true => exact ih
      | false => exact ih
    · exact ih

/-- nothing of the store is made or turned -/
def Quiet (A0 : St) (R : List Rec) : Prop := ∀ r ∈ R, r.nx = A0.next ∧ (r.did = .val ∨ ∃ f vs, r.did = .read f vs)
/-- nothing is made, and whatever the reading may see has no more blocks than it knew -/
def Still (b : List Nat) (A0 : St) (R : List Rec) (r : Rec) : Prop := (∀ s ∈ R, ∀ id o, s.did ≠ .make id o) ∧ ∀ e, e ∈ effects R → mayE b r.i e R = true → (postE A0 R e).next ≤ r.nx
/-- every reading tells what it would tell in whatever order -/
def ReadsSure (b : List Nat) (A0 : St) (R : List Rec) : Prop := ∀ r ∈ R, ∀ f vs, r.did = .read f vs → (under r.nx r.v = true ∨ Still b A0 R r) ∧ ∀ e, e ∈ effects R → mayE b r.i e R = true → f (viewE b A0 R e (bef b r.i)) vs = some r.v

structure Setup (P : Program) (call : CallF) (all : List Oper) (A0 : St) (t0 : Tm) (R : List Rec) : Prop where
  facts : RegionFacts P all
  valid : Valid P call all A0 t0 R
  len : R.length = all.length
  chain : chainOk (befAll [] all) R = true
  reads : ReadsSure (befAll [] all) A0 R

theorem Valid.sorted {P : Program} {call : CallF} {all : List Oper} {A0 : St} {t0 : Tm} : ∀ {R : List Rec}, Valid P call all A0 t0 R → R.Pairwise (fun x y => y.i < x.i)
  | [], _ => .nil
  | r :: R, h => by
    rw [List.pairwise_cons]
    exact ⟨fun s hs => by have := h.1.lt hs; rw [h.2.1]; exact this, Valid.sorted h.1⟩

theorem chain_bef {P : Program} {call : CallF} {all : List Oper} {A0 : St} {t0 : Tm} (hf : RegionFacts P all) : ∀ {R : List Rec}, Valid P call all A0 t0 R → chainOk (befAll [] all) R = true →
    ∀ {r s : Rec}, r ∈ R → s ∈ R → isAct r → isAct s → s.i < r.i → bef (befAll [] all) r.i s.i = true
  | [], _, _, r, s, h, _, _, _, _ => by simp at h
  | x :: R, hv, hc, r, s, hr, hs, ar, as, hlt => by
    simp only [chainOk, Bool.and_eq_true] at hc
    have hsR : s ∈ R := by
      rcases List.mem_cons.1 hs with h | h
      · rcases List.mem_cons.1 hr with h' | h'
        · rw [h, h'] at hlt; omega
        · have := hv.1.lt h'; have := hv.2.1; rw [h] at hlt; omega
      · exact h
    rcases List.mem_cons.1 hr with h | h
    · subst h
      obtain ⟨B, hB⟩ := ar
      rw [hB] at hc
      cases he : lastE R with
      | none => exact absurd as (lastE_none he s hsR)
      | some e =>
        rw [he] at hc
        obtain ⟨y, hy, h1, h2, h3⟩ := lastE_some hv.1.sorted he
        have hle := h3 s hsR as
        by_cases hse : s.i = e
        · rw [hse]; exact hc.1
        · have := chain_bef hf hv.1 hc.2 hy hsR h2 as (by omega)
          rw [h1] at this
          exact bef_trans hf hc.1 this
    · exact chain_bef hf hv.1 hc.2 h hsR ar as hlt

def lS (R : List Rec) (S : Nat → Bool) : Option Nat := lastE (R.filter fun r => S r.i)
def coreOf (A0 : St) (R : List Rec) (S : Nat → Bool) : St := postE A0 R (lS R S)
def writer (all : List Oper) (R : List Rec) (S : Nat → Bool) (x : Nat) : Option Rec := R.find? fun r => S r.i && (dstOf all r.i == some x)
def valOf (all : List Oper) (t0 : Tm) (R : List Rec) (S : Nat → Bool) (x : Nat) : Value :=
  match writer all R S x with
  | some r => r.v
  | none => (t0.get x).getD undef
def nxOf (all : List Oper) (A0 : St) (R : List Rec) (S : Nat → Bool) (x : Nat) : Nat :=
  match writer all R S x with
  | some r => r.nx
  | none => A0.next

/-- what has been done, S, and how it stands with the world -/
structure Inv (all : List Oper) (A0 : St) (t0 : Tm) (R : List Rec) (N : Nat) (d0 : List Deferred) (base : Nat) (ρ0 : Ren) (w0 : World) (S : Nat → Bool) (a : Act) (w : World) (ρ : Ren) : Prop where
  size : a.tmps.size = N
  defers : a.defers = d0
  tm : ∀ x, VR (ρ.res (nxOf all A0 R S x)) (valOf all t0 R S x) (a.tmps.getD x undef)
  core : Goes base ρ0 A0 w0 (ρ.res (coreOf A0 R S).next) (coreOf A0 R S) w
  news : ∀ r ∈ R, S r.i = true → ∀ id o, r.did = .make id o → befE (befAll [] all) (lS R S) r.i = false →
    ∃ c cb, ρ id = some (locOf o cb) ∧ NewOk (ρ.res r.nx) o c ∧ w.heap[cb]? = some c ∧ w0.heap.size ≤ cb ∧ ¬ Img (ρ.res (coreOf A0 R S).next) (coreOf A0 R S) cb
  newsApart : ∀ r ∈ R, ∀ s ∈ R, S r.i = true → S s.i = true → ∀ id o id' o', r.did = .make id o → s.did = .make id' o' → befE (befAll [] all) (lS R S) r.i = false → befE (befAll [] all) (lS R S) s.i = false →
    r.i ≠ s.i → ∀ l l', ρ id = some l → ρ id' = some l' → l.cb ≠ l'.cb
  unborn : ∀ r ∈ R, S r.i = false → ∀ id o, r.did = .make id o → ρ id = none
  dom : ∀ bl l, ρ bl = some l → bl < (coreOf A0 R S).next ∨ ∃ r ∈ R, S r.i = true ∧ ∃ o, r.did = .make bl o

theorem locOf_cb (o : AObj) (cb : Nat) : (locOf o cb).cb = cb := by cases o <;> rfl

/-- what lies in the store of which nothing else is told -/
theorem NewOk.obj {ρ : Ren} {o : AObj} {c : Obj} {base cb : Nat} {w : World} (h : NewOk ρ o c) (hw : w.heap[cb]? = some c) (hb : base ≤ cb) : ObjOk ρ base w (locOf o cb) o ∧ o.mine = true ∧ o.kin? = none ∧ o ≠ .dead := by
  have hlt : cb < w.heap.size := (Array.getElem?_eq_some_iff.1 hw).1
  unfold NewOk at h
  split at h
  · rename_i cs esz
    obtain ⟨a, T, rfl, h1, h2⟩ := h
    have hlen : a.size = cs.length := h1.length
    have hcell : ∀ i, w.cell? ⟨cb, i, none⟩ = a[i]? := fun i => by simp [World.cell?, hw]
    have hfr : ∀ i, w.frozen? ⟨cb, i, none⟩ = false := fun i => by simp [World.frozen?, hw]
    refine ⟨⟨fun i v hi => ?_, fun h => by simp at h, fun _ => hb, fun _ j hj => ?_, by simp [locOf], fun _ _ => by simp [locOf], rfl, hlt, fun _ _ j => hfr j⟩, rfl, rfl, by simp⟩
    · obtain ⟨v', h3, h4⟩ := h1.get hi
      exact ⟨v', by simp only [locOf, Nat.zero_add]; rw [hcell]; simpa using h3, h4, h2 v (List.mem_of_getElem? hi)⟩
    · simp only [locOf] at hj ⊢
      rw [hcell, hfr, Array.getElem?_eq_getElem (by omega)]
      exact ⟨rfl, rfl⟩
  · subst h
    exact ⟨⟨hb, #[], 0, hw, rfl⟩, rfl, rfl, by simp⟩
  · rename_i s
    subst h
    exact ⟨⟨hb, rfl, hw⟩, rfl, rfl, by simp⟩
  · exact h.elim
theorem NewOk.mono {ρ ρ' : Ren} (hle : ρ.le ρ') {o : AObj} {c : Obj} (h : NewOk ρ o c) : NewOk ρ' o c := by
  unfold NewOk at h ⊢
  split at h
  · obtain ⟨a, T, h1, h2, h3⟩ := h; exact ⟨a, T, h1, h2.mono hle, h3⟩
  · exact h
  · exact h
  · exact h.elim

section
variable {P : Program} {call : CallF} {all : List Oper} {A0 : St} {t0 : Tm} {R : List Rec} {N : Nat} {d0 : List Deferred} {base : Nat} {ρ0 : Ren} {w0 : World}

theorem Setup.make_id (hS : Setup P call all A0 t0 R) {r : Rec} {id : Nat} {o : AObj} (hr : r ∈ R) (hd : r.did = .make id o) : A0.next ≤ id ∧ r.nx = id + 1 := by
  obtain ⟨R0, R1, e, h5, h6, op, h7, h8⟩ := hS.valid.at hr
  obtain ⟨h9, h10⟩ := (recV_nx h8).2.1 id o hd
  exact ⟨by rw [h9]; exact h5.nx_base, h10⟩
theorem Setup.make_lt (hS : Setup P call all A0 t0 R) {r s : Rec} {id : Nat} {o : AObj} (hr : r ∈ R) (hs : s ∈ R) (hd : s.did = .make id o) (hlt : r.i < s.i) : r.nx ≤ id := by
  obtain ⟨R0, ⟨op, h1⟩, h2⟩ := hS.valid.order hr hs hlt
  rw [((recV_nx h1).2.1 id o hd).1]
  exact h2
theorem Setup.make_inj (hS : Setup P call all A0 t0 R) {r s : Rec} {id : Nat} {o o' : AObj} (hr : r ∈ R) (hs : s ∈ R) (hd : r.did = .make id o) (hd' : s.did = .make id o') : r = s := by
  rcases Nat.lt_trichotomy r.i s.i with h | h | h
  · have h1 := hS.make_lt hr hs hd' h
    have h2 := (hS.make_id hr hd).2
    omega
  · exact hS.valid.inj hr hs h
  · have h1 := hS.make_lt hs hr hd h
    have h2 := (hS.make_id hs hd').2
    omega

/-- the last of what has turned the store -/
theorem Setup.last (hS : Setup P call all A0 t0 R) (S : Nat → Bool) : (lS R S = none ∧ coreOf A0 R S = A0 ∧ ∀ s ∈ R, isAct s → S s.i = false) ∨
    ∃ e ∈ R, lS R S = some e.i ∧ S e.i = true ∧ e.did = .act (coreOf A0 R S) ∧ e.nx = (coreOf A0 R S).next ∧ ∀ s ∈ R, isAct s → S s.i = true → s.i ≤ e.i := by
  cases h : lS R S with
  | none =>
    refine .inl ⟨rfl, by simp [coreOf, h, postE], fun s hs ha => ?_⟩
    cases hss : S s.i with
    | false => rfl
    | true => exact absurd ha (lastE_none h s (by simp [hs, hss]))
  | some e =>
    obtain ⟨r, hr, h1, ⟨B, h2⟩, h3⟩ := lastE_some (hS.valid.sorted.filter _) h
    rw [List.mem_filter] at hr
    have hcore : coreOf A0 R S = B := by
      simp only [coreOf, h, postE]
      exact postOf_eq (fun s hs he => hS.valid.inj hs hr.1 (by rw [he, h1])) hr.1 h1 h2
    refine .inr ⟨r, hr.1, by rw [h1], hr.2, by rw [hcore]; exact h2, ?_, fun s hs ha hss => by rw [h1]; exact h3 s (by simp [hs, hss]) ha⟩
    obtain ⟨R0, R1, e', h5, h6, op, h7, h8⟩ := hS.valid.at hr.1
    rw [hcore]
    exact (recV_nx h8).2.2.1 B h2

/-- the store that an operation may see: the core, and new blocks that are done -/
theorem Inv.view (hS : Setup P call all A0 t0 R) (hs0 : Sim ρ0 A0 base w0) {S : Nat → Bool} {a : Act} {w : World} {ρ : Ren} (hI : Inv all A0 t0 R N d0 base ρ0 w0 S a w ρ) (sel : Nat → Bool) (hsel : ∀ r ∈ R, ∀ id o, r.did = .make id o → sel r.i = true → S r.i = true)
    (n : Nat) (hn : (coreOf A0 R S).next ≤ n) (hn2 : ∀ r ∈ R, ∀ id o, r.did = .make id o → sel r.i = true → befE (befAll [] all) (lS R S) r.i = false → r.nx ≤ n) :
    Goes base ρ0 A0 w0 (ρ.res n) ((viewE (befAll [] all) A0 R (lS R S) sel).at n) w := by
  have hco := hI.core
  have hsim := hco.sim
  have hle : (ρ.res (coreOf A0 R S).next).le (ρ.res n) := ρ.res_mono hn
  have hget : ∀ x o, (viewE (befAll [] all) A0 R (lS R S) sel).get x = some o → (∃ r ∈ R, S r.i = true ∧ sel r.i = true ∧ befE (befAll [] all) (lS R S) r.i = false ∧ r.did = .make x o) ∨
      ((coreOf A0 R S).get x = some o ∧ ∀ r ∈ R, sel r.i = true → befE (befAll [] all) (lS R S) r.i = false → ∀ o', r.did ≠ .make x o') := by
    intro x o h
    rcases commit_get h with ⟨r, h1, h2, h3⟩ | ⟨h1, h2⟩
    · simp only [Bool.and_eq_true, Bool.not_eq_true'] at h2
      exact .inl ⟨r, h1, hsel r h1 x o h3 h2.1, h2.1, h2.2, h3⟩
    · exact .inr ⟨h1, fun r hr hs hb o' => h2 r hr (by simp [hs, hb]) o'⟩
  obtain ⟨hm, hl, _⟩ := commit_rest (sel := fun j => sel j && !befE (befAll [] all) (lS R S) j) (A := coreOf A0 R S) (R := R)
  have hnew : ∀ x o, (∃ r ∈ R, S r.i = true ∧ sel r.i = true ∧ befE (befAll [] all) (lS R S) r.i = false ∧ r.did = .make x o) → ∃ cb, (ρ.res n) x = some (locOf o cb) ∧ ObjOk (ρ.res n) base w (locOf o cb) o ∧ o.kin? = none ∧
      w0.heap.size ≤ cb ∧ ¬ Img (ρ.res (coreOf A0 R S).next) (coreOf A0 R S) cb := by
    rintro x o ⟨r, h1, h2, h3, h4, h5⟩
    obtain ⟨c, cb, h6, h7, h8, h9, h10⟩ := hI.news r h1 h2 x o h5 h4
    have hx : x < n := by have := (hS.make_id h1 h5).2; have := hn2 r h1 x o h5 h3 h4; omega
    have h0 := hs0.size
    obtain ⟨k1, k2, k3, k4⟩ := (h7.mono (ρ.res_mono (hn2 r h1 x o h5 h3 h4))).obj (base := base) h8 (by omega)
    exact ⟨cb, by rw [Ren.res_of hx]; exact h6, k1, k3, h9, h10⟩
  have hcoreloc : ∀ x o l, (coreOf A0 R S).get x = some o → o ≠ .dead → (ρ.res n) x = some l → (ρ.res (coreOf A0 R S).next) x = some l := by
    intro x o l hx hd hr
    obtain ⟨l', h1, _⟩ := hsim.rel.obj hx hd
    have := hle _ _ h1
    rw [hr] at this
    simp at this; subst this
    exact h1
  refine ⟨⟨.of_obj ?_ ?_ ?_, ?_, hsim.size, hsim.glob.mono hle⟩, ?_, hco.kept, Nat.le_trans hco.next hn, ?_, ?_, ?_⟩
  · intro x o hx hd
    rcases hget x o hx with h | ⟨h, _⟩
    · obtain ⟨cb, h1, h2, _⟩ := hnew x o h
      exact ⟨_, h1, h2⟩
    · obtain ⟨l, h1, h2⟩ := hsim.rel.obj h hd
      exact ⟨l, hle _ _ h1, h2.keep hle rfl (Nat.le_refl _)⟩
  · intro b1 b2 o1 o2 l1 l2 hne g1 g2 m1 m2 r1 r2 hcb
    have hd1 : o1 ≠ .dead := by intro e; subst e; simp [AObj.mine] at m1
    have hd2 : o2 ≠ .dead := by intro e; subst e; simp [AObj.mine] at m2
    rcases hget b1 o1 g1 with h1 | ⟨h1, _⟩ <;> rcases hget b2 o2 g2 with h2 | ⟨h2, _⟩
    · obtain ⟨r, a1, a2, a3, a4, a5⟩ := h1
      obtain ⟨s, c1, c2, c3, c4, c5⟩ := h2
      have hri : r.i ≠ s.i := fun e => by
        have := hS.valid.inj a1 c1 e
        subst this
        rw [a5] at c5; simp at c5
        exact hne c5.1
      exact absurd hcb (hI.newsApart r a1 s c1 a2 c2 b1 o1 b2 o2 a5 c5 a4 c4 hri l1 l2 (ρ.res_le n _ _ r1) (ρ.res_le n _ _ r2))
    · obtain ⟨cb, e1, _, _, _, e5⟩ := hnew b1 o1 h1
      rw [r1] at e1; simp at e1
      have hcb1 : l1.cb = cb := by rw [e1, locOf_cb]
      exact absurd ⟨b2, o2, l2, h2, m2, hcoreloc b2 o2 l2 h2 hd2 r2, by rw [← hcb, hcb1]⟩ e5
    · obtain ⟨cb, e1, _, _, _, e5⟩ := hnew b2 o2 h2
      rw [r2] at e1; simp at e1
      have hcb2 : l2.cb = cb := by rw [e1, locOf_cb]
      exact absurd ⟨b1, o1, l1, h1, m1, hcoreloc b1 o1 l1 h1 hd1 r1, by rw [hcb, hcb2]⟩ e5
    · exact hsim.rel.apart b1 b2 o1 o2 l1 l2 hne h1 h2 m1 m2 (hcoreloc b1 o1 l1 h1 hd1 r1) (hcoreloc b2 o2 l2 h2 hd2 r2) hcb
  · intro x o fam f hx hk
    rcases hget x o hx with h | ⟨h, _⟩
    · obtain ⟨cb, _, _, h3, _⟩ := hnew x o h
      rw [hk] at h3; simp at h3
    · show x ∈ (viewE (befAll [] all) A0 R (lS R S) sel).members fam
      rw [show (viewE (befAll [] all) A0 R (lS R S) sel).members = (coreOf A0 R S).members from hm]
      exact hsim.rel.listed x o fam f h hk
  · intro b l h; exact (Ren.res_lt h).1
  · intro b hb
    have h1 := hco.ext b hb
    have : b < (coreOf A0 R S).next := Nat.lt_of_lt_of_le hb hco.next
    rw [Ren.res_of this] at h1
    rw [Ren.res_of (by omega)]
    exact h1
  · show (viewE (befAll [] all) A0 R (lS R S) sel).low ≤ A0.low
    rw [show (viewE (befAll [] all) A0 R (lS R S) sel).low = (coreOf A0 R S).low from hl]
    exact hco.low
  · intro b hb hbl
    show (viewE (befAll [] all) A0 R (lS R S) sel).get b = A0.get b
    have hbl' : b < (coreOf A0 R S).low := by
      rw [← show (viewE (befAll [] all) A0 R (lS R S) sel).low = (coreOf A0 R S).low from hl]; exact hbl
    rw [← hco.same b hb hbl']
    refine commit_other fun r hr _ o' e => ?_
    have := (hS.make_id hr e).1
    omega
  · rintro k hk ⟨b, o, l, hg, hm', hr, rfl⟩
    have hd : o ≠ .dead := by intro e; subst e; simp [AObj.mine] at hm'
    rcases hget b o hg with h | ⟨h, _⟩
    · obtain ⟨cb, e1, _, _, e4, _⟩ := hnew b o h
      rw [hr] at e1; simp at e1
      rw [e1, locOf_cb] at hk
      omega
    · exact hco.img _ hk ⟨b, o, l, h, hm', hcoreloc b o l h hd hr, rfl⟩

/-! ### Operands -/
theorem opTmps_mem {x : Nat} : ∀ {xs : List Operand}, Operand.tmp x ∈ xs → x ∈ opTmps xs
  | [], h => by simp at h
  | .tmp t :: xs, h => by
    rcases List.mem_cons.1 h with h | h
    · simp at h; subst h; simp [opTmps]
    · simp [opTmps, opTmps_mem h]
  | .const _ :: xs, h => by
    rcases List.mem_cons.1 h with h | h
    · simp at h
    · simpa [opTmps] using opTmps_mem h
  | .global _ :: xs, h => by
    rcases List.mem_cons.1 h with h | h
    · simp at h
    · simpa [opTmps] using opTmps_mem h
  | .func _ :: xs, h => by
    rcases List.mem_cons.1 h with h | h
    · simp at h
    · simpa [opTmps] using opTmps_mem h

theorem textT_get : ∀ (R0 : List Rec) (x : Nat), (textT all t0 R0).get x = match R0.find? (fun r => dstOf all r.i == some x) with | some r => some r.v | none => t0.get x
  | [], x => rfl
  | r :: R0, x => by
    simp only [textT, List.find?_cons]
    cases hd : dstOf all r.i with
    | none => simp only [putT]; rw [textT_get R0 x]; rfl
    | some d =>
      simp only [putT, Trie.get_set]
      by_cases h : x = d
      · subst h; simp
      · rw [if_neg h, textT_get R0 x]
        have : (some d == some x) = false := by simp; exact fun e => h e.symm
        rw [this]

/-- what an operation that is ready reads of a temporary is what it reads in the text's own run -/
theorem writer_ready (hS : Setup P call all A0 t0 R) {S : Nat → Bool} (hc : Closed all S) {r : Rec} (hr : r ∈ R) {o : Oper} (ho : all[r.i]? = some o) (hSi : S r.i = false) (hrd : readyFor all S r.i)
    {x : Nat} (hx : x ∈ looks P all o) : ∃ R0, (∀ R1 R2, R = R1 ++ r :: R2 → R2 = R0) ∧ writer all R S x = R0.find? (fun r => dstOf all r.i == some x) := by
  obtain ⟨R0, R1, e, h5, h6, o', h7, h8⟩ := hS.valid.at hr
  refine ⟨R0, fun R1' R2' e' => ?_, ?_⟩
  · have hl : R2'.length = R0.length := by
      have hv := hS.valid
      rw [e'] at hv
      have key : ∀ (X : List Rec), Valid P call all A0 t0 (X ++ r :: R2') → r.i = R2'.length := by
        intro X
        induction X with
        | nil => intro h; exact h.2.1
        | cons y X ih => intro h; exact ih h.1
      rw [← key R1' hv, h6]
    have := congrArg (fun l => l.drop (l.length - R0.length)) (e.symm.trans e')
    simp only [List.length_append, List.length_cons, hl] at this
    have e1 : (R1 ++ r :: R0).drop (R1.length + (R0.length + 1) - R0.length) = R0 := by
      rw [show R1.length + (R0.length + 1) - R0.length = R1.length + 1 by omega, ← List.drop_drop, List.drop_left]
      rfl
    have e2 : (R1' ++ r :: R2').drop (R1'.length + (R0.length + 1) - R0.length) = R2' := by
      rw [show R1'.length + (R0.length + 1) - R0.length = R1'.length + 1 by omega, ← List.drop_drop, List.drop_left]
      rfl
    rw [e1, e2] at this
    exact this.symm
  · have hout : ∀ s ∈ R, s.i ≠ r.i → dstOf all s.i = some x → (S s.i = true ↔ s.i < r.i) := by
      intro s hs hne hd
      obtain ⟨os, hos⟩ : ∃ os, all[s.i]? = some os := by
        cases h : all[s.i]? with
        | none => simp [dstOf, h] at hd
        | some os => exact ⟨os, rfl⟩
      have hdst : os.dst = some x := by simpa [dstOf, hos] using hd
      have hcl : clash P all os o = true := by
        unfold clash
        have : hits os.dst (looks P all o) = true := by
          rw [hdst]
          simp only [hits, List.any_eq_true]
          exact ⟨x, hx, by simp⟩
        rw [this]; rfl
      have hcl' : clash P all o os = true := by
        unfold clash at hcl ⊢
        simp only [Bool.or_eq_true] at hcl ⊢
        have hsym : ∀ d e, sameDst d e = sameDst e d := by
          intro d e
          cases d <;> cases e <;> simp [sameDst]
          rename_i p q
          rw [Bool.eq_iff_iff]; simp; exact eq_comm
        rw [hsym o.dst os.dst]
        rcases hcl with (h | h) | h
        · exact .inl (.inr h)
        · exact .inl (.inl h)
        · exact .inr h
      constructor
      · intro hss
        rcases Nat.lt_or_ge s.i r.i with h | h
        · exact h
        · have hlt : r.i < s.i := by omega
          have := hS.facts.apart s.i r.i o os hos ho hlt hcl'
          have := hc _ _ hss this
          rw [hSi] at this; simp at this
      · intro hlt
        exact hc.ready hS.facts ho hrd _ (hS.facts.apart r.i s.i os o ho hos hlt hcl)
    unfold writer
    rw [e, List.find?_append]
    have hv := hS.valid
    have h1 : R1.find? (fun r => S r.i && (dstOf all r.i == some x)) = none := by
      rw [List.find?_eq_none]
      intro s hs hcon
      simp only [Bool.and_eq_true, beq_iff_eq] at hcon
      have hsR : s ∈ R := by rw [e]; simp [hs]
      have hgt : r.i < s.i := by
        have hp := hv.sorted
        rw [e, List.pairwise_append] at hp
        exact hp.2.2 s hs r (by simp)
      have := (hout s hsR (by omega) hcon.2).1 hcon.1
      omega
    rw [h1]
    simp only [Option.none_or, List.find?_cons, hSi, Bool.false_and]
    have h2 : ∀ (l : List Rec), (∀ s ∈ l, s ∈ R0) → l.find? (fun r => S r.i && (dstOf all r.i == some x)) = l.find? (fun r => dstOf all r.i == some x) := by
      intro l
      induction l with
      | nil => intro _; rfl
      | cons s l ih =>
        intro hl
        simp only [List.find?_cons]
        have hs0 : s ∈ R0 := hl s (by simp)
        have hsR : s ∈ R := by rw [e]; simp [hs0]
        have hlt : s.i < r.i := by rw [h6]; exact h5.lt hs0
        cases hd : (dstOf all s.i == some x) with
        | false => simp only [Bool.and_false]; exact ih (fun y hy => hl y (by simp [hy]))
        | true =>
          have := (hout s hsR (by omega) (by simpa using hd)).2 hlt
          simp [this]
    exact h2 R0 (fun s hs => hs)
end
end
end Go.Abs
