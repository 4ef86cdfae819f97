/-
  The abstract store and the world: the relation, and what reading, writing and making blocks do to it.
-/
import Derived.Test.YtcfijkmjblcenaaGreatDoorAbsRel
import Derived.Below
namespace Go.Abs
open Go

def AObj.mine : AObj → Bool
  | .row _ _ own _ => own
  | .map _ => true
  | .iter _ _ => true
  | .dead => false
  | .loop _ _ _ _ _ _ => true
def AObj.kin? : AObj → Option (Nat × Nat)
  | .row _ _ _ kin => kin
  | _ => none

def MRel (ρ : Ren) : List (Value × Value) → List MapEntry → Prop
  | [], l => l = []
  | (k, v) :: es, l => ∃ e r, l = e :: r ∧ VR ρ k e.key ∧ VR ρ v e.val ∧ MRel ρ es r

structure RowOk (ρ : Ren) (base : Nat) (w : World) (l : Loc) (cs : List Value) (esz : Nat) (own : Bool) (kin : Option (Nat × Nat)) : Prop where
  cells : ∀ (i : Nat) (v : Value), cs[i]? = some v → ∃ v', w.cell? ⟨l.cb, l.coff + i, none⟩ = some v' ∧ VR ρ v v' ∧ scalar v = true
  foreign : own = false → l.cb < base
  mine : own = true → base ≤ l.cb
  there : own = true → ∀ j, j < l.csize → (w.cell? ⟨l.cb, j, none⟩).isSome = true ∧ w.frozen? ⟨l.cb, j, none⟩ = false
  fits : l.coff + cs.length ≤ l.csize
  ends : own = true → kin = none → l.coff + cs.length = l.csize
  esz : l.esz = esz
  lies : l.cb < w.heap.size
  mark : own = true → l.esz ≠ 1 → ∀ j, w.frozen? ⟨l.cb, j, none⟩ = false

structure MapOk (ρ : Ren) (base : Nat) (w : World) (l : Loc) (es : List (Value × Value)) : Prop where
  mine : base ≤ l.cb
  lies : ∃ es' clock, w.heap[l.cb]? = some (.map es' clock) ∧ MRel ρ es es'.toList
structure IterOk (base : Nat) (w : World) (l : Loc) (s : List UInt8) (pos : Nat) : Prop where
  mine : base ≤ l.cb
  lies : l.coff = 0 ∧ w.heap[l.cb]? = some (.stringIter ⟨⟨s⟩⟩ pos)

/-- the code by which an activation is left -/
def AExit.code : AExit → Option Code
  | .normal => none
  | .exit id => some (.exit id)
  | .goto l => some (.goto l)
  | .ret => some .ret
def loopState : Nat → LoopState
  | 0 => .ready
  | 1 => .busy
  | _ => .done
/-- temporaries and what they hold -/
structure TmR (ρ : Ren) (t : Trie Value) (N : Nat) (tmps : Array Value) (ps : List Nat) (assign body : Code) : Prop where
  size : tmps.size = N
  val : ∀ i, VR ρ ((t.get i).getD undef) (tmps.getD i undef)
  none : ∀ i, N ≤ i → t.get i = Option.none
  codes : ps.all (fun p => Nat.blt p N) = true ∧ codeOk N assign = true ∧ codeOk N body = true ∧ noRange assign = true ∧ noRange body = true
theorem TmR.mono {ρ ρ' : Ren} (h : ρ.le ρ') {t : Trie Value} {N : Nat} {tmps : Array Value} {ps : List Nat} {a b : Code} (k : TmR ρ t N tmps ps a b) : TmR ρ' t N tmps ps a b := ⟨k.size, fun i => (k.val i).mono h, k.none, k.codes⟩
structure LoopOk (ρ : Ren) (base : Nat) (w : World) (l : Loc) (st : Nat) (e : AExit) (t : Trie Value) (ps : List Nat) (assign body : Code) : Prop where
  mine : base ≤ l.cb
  lies : ∃ fn tmps D N, w.heap[l.cb]? = some (.loop { state := loopState st, pending := e.code, fn := fn, tmps := tmps, params := ps.toArray, assign := assign, body := body, defers := D }) ∧ TmR ρ t N tmps ps assign body

structure Rel (ρ : Ren) (get : Nat → Option AObj) (mem : Nat → List Nat) (base : Nat) (w : World) : Prop where
  row : ∀ b cs esz own kin, get b = some (.row cs esz own kin) → ∃ l, ρ b = some l ∧ RowOk ρ base w l cs esz own kin
  map : ∀ b es, get b = some (.map es) → ∃ l, ρ b = some l ∧ MapOk ρ base w l es
  iter : ∀ b s pos, get b = some (.iter s pos) → ∃ l, ρ b = some l ∧ IterOk base w l s pos
  loop : ∀ b st e t ps a c, get b = some (.loop st e t ps a c) → ∃ l, ρ b = some l ∧ LoopOk ρ base w l st e t ps a c
  apart : ∀ b1 b2 o1 o2 l1 l2, b1 ≠ b2 → get b1 = some o1 → get b2 = some o2 → o1.mine = true → o2.mine = true → ρ b1 = some l1 → ρ b2 = some l2 → l1.cb = l2.cb →
    ∃ fam f1 f2, o1.kin? = some (fam, f1) ∧ o2.kin? = some (fam, f2) ∧ l1.coff + f2 = l2.coff + f1
  listed : ∀ b o fam f, get b = some o → o.kin? = some (fam, f) → b ∈ mem fam

/-- the package-level variables that the machine knows lie where they lie -/
def Glob (ρ : Ren) : Prop := ∀ g, g < gB → ∃ l, ρ g = some l ∧ l.cb = g ∧ l.coff = 0
theorem Glob.mono {ρ ρ' : Ren} (h : Glob ρ) (k : ρ.le ρ') : Glob ρ' := fun g hg => by
  obtain ⟨l, e, h2⟩ := h g hg
  exact ⟨l, k g l e, h2⟩
theorem Glob.ev {ρ : Ren} (h : Glob ρ) (g : Nat) : VR ρ (globV g) (.pointer (some ⟨g, 0, none⟩)) := by
  unfold globV
  cases hb : Nat.blt g gB with
  | false => simp [VR]
  | true =>
    obtain ⟨⟨cb, co, cs, es⟩, e, h1, h2⟩ := h g (Nat.le_of_ble_eq_true hb)
    simp only at h1 h2
    subst h1; subst h2
    exact ⟨rfl, _, e, rfl⟩
structure Sim (ρ : Ren) (A : St) (base : Nat) (w : World) : Prop where
  rel : Rel ρ A.get A.members base w
  dom : ∀ b l, ρ b = some l → b < A.next
  size : base ≤ w.heap.size
  glob : Glob ρ

/-- the concrete blocks that may be written -/
def Img (ρ : Ren) (A : St) (k : Nat) : Prop := ∃ b o l, A.get b = some o ∧ o.mine = true ∧ ρ b = some l ∧ l.cb = k

structure Kept (ρ : Ren) (A : St) (w w' : World) : Prop where
  os : w'.os = w.os
  tape : w'.tape = w.tape
  output : w'.output = w.output
  size : w.heap.size ≤ w'.heap.size
  block : ∀ k, k < w.heap.size → ¬ Img ρ A k → w'.heap[k]? = w.heap[k]?

structure Goes (base : Nat) (ρ : Ren) (A : St) (w : World) (ρ' : Ren) (B : St) (w' : World) : Prop where
  sim : Sim ρ' B base w'
  ext : ∀ b, b < A.next → ρ' b = ρ b
  kept : Kept ρ A w w'
  next : A.next ≤ B.next
  low : B.low ≤ A.low
  same : ∀ b, b < A.next → b < B.low → B.get b = A.get b
  img : ∀ k, k < w.heap.size → Img ρ' B k → Img ρ A k

theorem Kept.refl (ρ : Ren) (A : St) (w : World) : Kept ρ A w w := ⟨rfl, rfl, rfl, Nat.le_refl _, fun _ _ _ => rfl⟩
theorem Goes.refl {base : Nat} {ρ : Ren} {A : St} {w : World} (h : Sim ρ A base w) : Goes base ρ A w ρ A w :=
  ⟨h, fun _ _ => rfl, .refl _ _ _, Nat.le_refl _, Nat.le_refl _, fun _ _ _ => rfl, fun _ _ h => h⟩
theorem Goes.trans {base : Nat} {ρ ρ' ρ'' : Ren} {A B C : St} {w w' w'' : World} (h : Goes base ρ A w ρ' B w') (k : Goes base ρ' B w' ρ'' C w'') : Goes base ρ A w ρ'' C w'' where
  sim := k.sim
  ext b hb := (k.ext b (Nat.lt_of_lt_of_le hb h.next)).trans (h.ext b hb)
  kept := {
    os := k.kept.os.trans h.kept.os
    tape := k.kept.tape.trans h.kept.tape
    output := k.kept.output.trans h.kept.output
    size := Nat.le_trans h.kept.size k.kept.size
    block := fun i hi hn => (k.kept.block i (Nat.lt_of_lt_of_le hi h.kept.size) (fun hk => hn (h.img i hi hk))).trans (h.kept.block i hi hn) }
  next := Nat.le_trans h.next k.next
  low := Nat.le_trans k.low h.low
  same b hb hl := (k.same b (Nat.lt_of_lt_of_le hb h.next) hl).trans (h.same b hb (Nat.lt_of_lt_of_le hl k.low))
  img i hi hk := h.img i hi (k.img i (Nat.lt_of_lt_of_le hi h.kept.size) hk)
theorem Goes.le {base : Nat} {ρ ρ' : Ren} {A B : St} {w w' : World} (h : Goes base ρ A w ρ' B w') (hs : Sim ρ A base w) : ρ.le ρ' :=
  fun b l e => by rw [h.ext b (hs.dom b l e)]; exact e

/-! ## Facts of the store -/
@[simp] theorem St.get_put (A : St) (b : Nat) (o : AObj) (x : Nat) : (A.put b o).get x = if x = b then some o else A.get x := by
  simp [St.put, St.get, Trie.get_set]
@[simp] theorem St.members_put (A : St) (b : Nat) (o : AObj) : (A.put b o).members = A.members := rfl
@[simp] theorem St.next_put (A : St) (b : Nat) (o : AObj) : (A.put b o).next = A.next := rfl
theorem St.low_put (A : St) (b : Nat) (o : AObj) : (A.put b o).low = Nat.min A.low b := rfl
@[simp] theorem St.get_new (A : St) (o : AObj) (x : Nat) : (A.new o).get x = if x = A.next then some o else A.get x := by
  simp [St.new, St.get, Trie.get_set]
@[simp] theorem St.members_new (A : St) (o : AObj) : (A.new o).members = A.members := rfl
@[simp] theorem St.next_new (A : St) (o : AObj) : (A.new o).next = A.next + 1 := rfl
@[simp] theorem St.low_new (A : St) (o : AObj) : (A.new o).low = A.low := rfl
@[simp] theorem St.get_join (A : St) (f b x : Nat) : (A.join f b).get x = A.get x := rfl
@[simp] theorem St.next_join (A : St) (f b : Nat) : (A.join f b).next = A.next := rfl
@[simp] theorem St.low_join (A : St) (f b : Nat) : (A.join f b).low = A.low := rfl
theorem St.members_join (A : St) (f b x : Nat) : (A.join f b).members x = if x = f then b :: A.members f else A.members x := by
  simp only [St.join, St.members, Trie.get_set]
  split <;> rfl

theorem stale_dead (lo hi : Nat) : stale (some .dead) lo hi = false := rfl
theorem kill_get (b lo hi x : Nat) : ∀ (L : List Nat) (A : St), (A.kill b lo hi L).get x = if x ∈ L ∧ x ≠ b ∧ stale (A.get x) lo hi = true then some .dead else A.get x
  | [], A => by simp [St.kill]
  | y :: L, A => by
    simp only [St.kill]
    cases hc : (!(Nat.beq y b) && stale (A.get y) lo hi) with
    | true =>
      simp only [Bool.and_eq_true, Bool.not_eq_true'] at hc
      have hyb : y ≠ b := Nat.ne_of_beq_eq_false hc.1
      rw [cond_true, kill_get b lo hi x L]
      by_cases hxy : x = y
      · subst hxy
        simp [stale_dead, hyb, hc.2]
      · simp [hxy]
    | false =>
      rw [cond_false, kill_get b lo hi x L]
      by_cases hxy : x = y
      · subst hxy
        have : ¬(x ≠ b ∧ stale (A.get x) lo hi = true) := by
          rintro ⟨h1, h2⟩
          rw [h2, Bool.and_true, Bool.not_eq_false'] at hc
          exact h1 (Nat.eq_of_beq_eq_true hc)
        rw [if_neg (fun h => this ⟨h.2.1, h.2.2⟩), if_neg (fun h => this ⟨h.2.1, h.2.2⟩)]
      · simp [hxy]
@[simp] theorem kill_members (b lo hi : Nat) : ∀ (L : List Nat) (A : St), (A.kill b lo hi L).members = A.members
  | [], A => rfl
  | y :: L, A => by simp only [St.kill]; cases (!(Nat.beq y b) && stale (A.get y) lo hi) <;> simp [kill_members b lo hi L]
@[simp] theorem kill_next (b lo hi : Nat) : ∀ (L : List Nat) (A : St), (A.kill b lo hi L).next = A.next
  | [], A => rfl
  | y :: L, A => by simp only [St.kill]; cases (!(Nat.beq y b) && stale (A.get y) lo hi) <;> simp [kill_next b lo hi L]
theorem kill_low (b lo hi : Nat) : ∀ (L : List Nat) (A : St), (A.kill b lo hi L).low ≤ A.low ∧ ∀ x, (A.kill b lo hi L).get x ≠ A.get x → (A.kill b lo hi L).low ≤ x
  | [], A => ⟨Nat.le_refl _, fun x h => absurd rfl h⟩
  | y :: L, A => by
    simp only [St.kill]
    cases hc : (!(Nat.beq y b) && stale (A.get y) lo hi) with
    | true =>
      rw [cond_true]
      obtain ⟨h1, h2⟩ := kill_low b lo hi L (A.put y .dead)
      rw [St.low_put] at h1
      have hle : Nat.min A.low y ≤ A.low := Nat.min_le_left _ _
      refine ⟨Nat.le_trans h1 hle, fun x hx => ?_⟩
      by_cases hxy : x = y
      · subst hxy
        exact Nat.le_trans h1 (Nat.min_le_right _ _)
      · exact h2 x (by simpa [hxy] using hx)
    | false =>
      rw [cond_false]
      exact kill_low b lo hi L A

/-! ## Facts of worlds -/
theorem setCells_size (b : Nat) : ∀ (vs : List Value) (o : Nat) (w : World), (w.setCells b o vs).heap.size = w.heap.size
  | [], _, _ => rfl
  | v :: r, o, w => by rw [World.setCells, setCells_size b r]; simp
theorem setCells_os (b : Nat) : ∀ (vs : List Value) (o : Nat) (w : World), (w.setCells b o vs).os = w.os ∧ (w.setCells b o vs).tape = w.tape ∧ (w.setCells b o vs).output = w.output
  | [], _, _ => ⟨rfl, rfl, rfl⟩
  | v :: r, o, w => by rw [World.setCells]; exact setCells_os b r (o + 1) _
theorem setCells_heap (b : Nat) {k : Nat} (hk : k ≠ b) : ∀ (vs : List Value) (o : Nat) (w : World), (w.setCells b o vs).heap[k]? = w.heap[k]?
  | [], _, _ => rfl
  | v :: r, o, w => by rw [World.setCells, setCells_heap b hk r]; exact RowKit.Below.heap_setCell _ _ _ _ hk
theorem setCell_isSome (w : World) (a x : Addr) (v : Value) : ((w.setCell a v).cell? x).isSome = (w.cell? x).isSome := by
  by_cases h : a = x
  · subst h
    cases hc : w.cell? a with
    | some u => rw [World.cell?_setCell_same _ _ _ hc]; rfl
    | none =>
      simp only [World.setCell, World.cell?, Array.getElem?_modify, if_true] at hc ⊢
      cases hh : w.heap[a.block]? with
      | none => simp
      | some o =>
        rw [hh] at hc
        cases o <;> simp at hc ⊢
        intro h1
        simpa [h1] using hc h1
  · rw [World.cell?_setCell_other _ _ _ _ h]
theorem setCells_isSome (b : Nat) (x : Addr) : ∀ (vs : List Value) (o : Nat) (w : World), ((w.setCells b o vs).cell? x).isSome = (w.cell? x).isSome
  | [], _, _ => rfl
  | v :: r, o, w => by rw [World.setCells, setCells_isSome b x r, setCell_isSome]

theorem choose_list {ρ : Ren} (F : Nat → Option Value) : ∀ (cs : List Value) (i : Nat), (∀ j v, cs[j]? = some v → ∃ v', F (i + j) = some v' ∧ VR ρ v v') →
    ∃ cs', VRL ρ cs cs' ∧ ∀ (j : Nat) (v' : Value), cs'[j]? = some v' → F (i + j) = some v'
  | [], _, _ => ⟨[], .nil, by simp⟩
  | x :: xs, i, h => by
    obtain ⟨y, hy, hv⟩ := h 0 x rfl
    obtain ⟨ys, h1, h2⟩ := choose_list F xs (i + 1) (fun j v e => by have := h (j + 1) v (by simpa using e); rwa [show i + (j + 1) = i + 1 + j by omega] at this)
    refine ⟨y :: ys, .cons hv h1, fun j v' e => ?_⟩
    cases j with
    | zero => simp at e; subst e; exact hy
    | succ j => rw [show i + (j + 1) = i + 1 + j by omega]; exact h2 j v' (by simpa using e)

/-! ## Reading -/
theorem addr_add_mid (b o j : Nat) : (⟨b, o, none⟩ : Addr).add j = ⟨b, o + j, none⟩ := by unfold Addr.add; split <;> simp_all

theorem VR.ptr_inv {ρ : Ren} {a : Addr} {v : Value} (h : VR ρ (.pointer (some a)) v) : a.spot = none ∧ ∃ l, ρ a.block = some l ∧ v = .pointer (some ⟨l.cb, l.coff + a.off, none⟩) := by simpa only [VR] using h

theorem loadN_sound {P : Program} {ρ : Ren} {A : St} {base : Nat} {w : World} {a : Addr} {n : Nat} {cs : List Value} {l : Loc} (hs : Rel ρ A.get A.members base w) (hl : A.loadN a n = some cs) (hρ : ρ a.block = some l) :
    ∃ cs', VRL ρ cs cs' ∧ cs.length = n ∧ (∀ v ∈ cs, scalar v = true) ∧ (loadCells ⟨l.cb, l.coff + a.off, none⟩ n).run P w = .ok cs'.toArray w := by
  simp only [St.loadN] at hl
  cases hp : plainAddr a with
  | false => simp [hp] at hl
  | true =>
    rw [hp, cond_true] at hl
    obtain ⟨cs0, h1, h2⟩ := Option.bind_eq_some_iff.1 hl
    simp only [rowCells] at h1
    split at h1
    · rename_i c e o kin hg
      simp at h1; subst h1
      rw [dropN_eq] at h2
      obtain ⟨rfl, hlen⟩ := takeN_eq h2
      obtain ⟨l', hl', ok⟩ := hs.row _ _ _ _ _ hg
      rw [hρ] at hl'; simp at hl'; subst hl'
      have hget : ∀ (j : Nat) (v : Value), ((c.drop a.off).take n)[j]? = some v → j < n ∧ c[a.off + j]? = some v := by
        intro j v e
        rw [List.getElem?_take] at e
        split at e
        · rename_i hj; rw [List.getElem?_drop] at e; exact ⟨hj, e⟩
        · simp at e
      obtain ⟨cs', hr, hc⟩ := choose_list (ρ := ρ) (fun j => w.cell? ⟨l.cb, l.coff + a.off + j, none⟩) ((c.drop a.off).take n) 0 (fun j v e => by
        obtain ⟨v', h3, h4, _⟩ := ok.cells _ _ (hget j v e).2
        exact ⟨v', by rw [Nat.zero_add, Nat.add_assoc]; exact h3, h4⟩)
      have hn : cs'.length = n := by rw [hr.length, List.length_take, Nat.min_eq_left hlen]
      refine ⟨cs', hr, by rw [List.length_take, Nat.min_eq_left hlen], fun v hv => ?_, ?_⟩
      · obtain ⟨j, hj⟩ := List.getElem?_of_mem hv
        exact (ok.cells _ _ (hget j v hj).2).choose_spec.2.2
      · have := run_loadCells_list (P := P) w ⟨l.cb, l.coff + a.off, none⟩ cs' (fun j v e => by rw [addr_add_mid]; simpa using hc j v e)
        rwa [hn] at this
    · simp at h1

/-! ## Writing -/
theorem stale_false {o : AObj} {cs : List Value} {e : Nat} {own : Bool} {fam f lo hi : Nat} (ho : o = .row cs e own (some (fam, f))) (h : stale (some o) lo hi = false) :
    f + cs.length ≤ lo ∨ hi ≤ f := by
  subst ho
  simp only [stale, meets, Bool.and_eq_false_iff] at h
  rcases h with h | h
  · left
    have : ¬ lo < f + cs.length := fun hlt => by rw [show Nat.blt _ _ = true from by rw [Nat.blt_eq]; exact hlt] at h; simp at h
    omega
  · right
    have : ¬ f < hi := fun hlt => by rw [show Nat.blt _ _ = true from by rw [Nat.blt_eq]; exact hlt] at h; simp at h
    omega

theorem kin_row {o : AObj} {fam f : Nat} (h : o.kin? = some (fam, f)) : ∃ cs e own, o = .row cs e own (some (fam, f)) := by
  cases o with
  | row cs e own kin => simp only [AObj.kin?] at h; subst h; exact ⟨cs, e, own, rfl⟩
  | _ => simp [AObj.kin?] at h

/-- what a row's owner may do: its cells are written, those of its kin that the range meets are told no more -/
theorem write_sound {ρ : Ren} {A : St} {base : Nat} {w : World} {b off esz : Nat} {cs cs' vs vs' : List Value} {kin : Option (Nat × Nat)} {l : Loc}
    (hs : Sim ρ A base w) (hg : A.get b = some (.row cs esz true kin)) (hw : writeN off cs vs = some cs') (hv : VRL ρ vs vs') (h1 : ∀ v ∈ vs, scalar v = true) (hρ : ρ b = some l) :
    Goes base ρ A w ρ ((A.put b (.row cs' esz true kin)).killKin b kin off (off + vs.length)) (w.setCells l.cb (l.coff + off) vs') := by
  obtain ⟨l', hl', ok⟩ := hs.rel.row _ _ _ _ _ hg
  rw [hρ] at hl'; simp at hl'; subst hl'
  obtain ⟨hlen, hfit, hget⟩ := writeN_spec hw
  have hvl : vs'.length = vs.length := hv.length
  -- the new store, by what it tells
  have hB : ∀ x, ((A.put b (.row cs' esz true kin)).killKin b kin off (off + vs.length)).get x =
      if x = b then some (.row cs' esz true kin) else
        (match kin with
        | none => A.get x
        | some (fam, f) => if x ∈ A.members fam ∧ stale (A.get x) (f + off) (f + (off + vs.length)) = true then some .dead else A.get x) := by
    intro x
    cases kin with
    | none => simp [St.killKin]
    | some p =>
      obtain ⟨fam, f⟩ := p
      simp only [St.killKin, kill_get, St.members_put, St.get_put]
      by_cases hx : x = b
      · simp [hx]
      · simp [hx]
  have hmem : ((A.put b (.row cs' esz true kin)).killKin b kin off (off + vs.length)).members = A.members := by
    cases kin <;> simp [St.killKin]
  have hnext : ((A.put b (.row cs' esz true kin)).killKin b kin off (off + vs.length)).next = A.next := by
    cases kin <;> simp [St.killKin]
  have hlow : ((A.put b (.row cs' esz true kin)).killKin b kin off (off + vs.length)).low ≤ Nat.min A.low b ∧
      ∀ x, x ≠ b → ((A.put b (.row cs' esz true kin)).killKin b kin off (off + vs.length)).get x ≠ A.get x → ((A.put b (.row cs' esz true kin)).killKin b kin off (off + vs.length)).low ≤ x := by
    cases kin with
    | none => exact ⟨Nat.le_refl _, fun x hx h => absurd (by simp [St.killKin, hx]) h⟩
    | some p =>
      obtain ⟨h2, h3⟩ := kill_low b (p.2 + off) (p.2 + (off + vs.length)) ((A.put b (.row cs' esz true (some p))).members p.1) (A.put b (.row cs' esz true (some p)))
      exact ⟨h2, fun x hx h => h3 x (by simpa [St.killKin, hx] using h)⟩
  generalize (A.put b (.row cs' esz true kin)).killKin b kin off (off + vs.length) = B at hB hmem hnext hlow
  -- what B tells of others it had from A, and the range is none of theirs
  have hother : ∀ x o, x ≠ b → B.get x = some o → o ≠ .dead → A.get x = some o ∧ ∀ fam f, kin = some (fam, f) → x ∈ A.members fam → stale (some o) (f + off) (f + (off + vs.length)) = false := by
    intro x o hx ho hd
    rw [hB, if_neg hx] at ho
    cases kin with
    | none => exact ⟨ho, fun _ _ h => by simp at h⟩
    | some p =>
      obtain ⟨fam, f⟩ := p
      simp only at ho
      split at ho
      · simp at ho; exact absurd ho.symm hd
      · rename_i hc
        refine ⟨ho, fun fam' f' h hm => ?_⟩
        simp at h
        obtain ⟨rfl, rfl⟩ := h
        rw [← ho]
        cases hst : stale (A.get x) (f + off) (f + (off + vs.length)) with
        | false => rfl
        | true => exact absurd ⟨hm, hst⟩ hc
  have hmineb : AObj.mine (.row cs esz true kin) = true := rfl
  have hcell : ∀ x : Addr, (x.block = l.cb → x.spot = none → x.off < l.coff + off ∨ l.coff + off + vs'.length ≤ x.off) → (w.setCells l.cb (l.coff + off) vs').cell? x = w.cell? x :=
    fun x h => World.cell?_setCells_out _ _ _ _ _ h
  have hsome : ∀ x, ((w.setCells l.cb (l.coff + off) vs').cell? x).isSome = (w.cell? x).isSome := fun x => setCells_isSome _ _ _ _ _
  have hfr : ∀ x, (w.setCells l.cb (l.coff + off) vs').frozen? x = w.frozen? x := fun x => World.frozen?_setCells _ _ _ _ _
  have hsz : (w.setCells l.cb (l.coff + off) vs').heap.size = w.heap.size := setCells_size _ _ _ _
  -- an other's cells
  have hfar : ∀ x cs2 e2 own2 kin2 l2, x ≠ b → B.get x = some (.row cs2 e2 own2 kin2) → ρ x = some l2 → RowOk ρ base w l2 cs2 e2 own2 kin2 → ∀ i, i < cs2.length →
      (w.setCells l.cb (l.coff + off) vs').cell? ⟨l2.cb, l2.coff + i, none⟩ = w.cell? ⟨l2.cb, l2.coff + i, none⟩ := by
    intro x cs2 e2 own2 kin2 l2 hx hgx hρx ok2 i hi
    refine hcell _ (fun hbl _ => ?_)
    simp only at hbl ⊢
    obtain ⟨hA, hst⟩ := hother x _ hx hgx (by simp)
    cases own2 with
    | false => have h3 := ok2.foreign rfl; have h4 := ok.mine rfl; omega
    | true =>
      obtain ⟨fam, f1, f2, e1, e2', e3⟩ := hs.rel.apart x b _ _ l2 l hx hA hg rfl hmineb hρx hρ hbl
      simp only [AObj.kin?] at e1 e2'
      subst e1 e2'
      have hm := hs.rel.listed x _ fam f1 hA rfl
      have := stale_false rfl (hst fam f2 rfl hm)
      rw [hvl]
      omega
  refine ⟨⟨⟨?_, ?_, ?_, ?_, ?_, ?_⟩, ?_, ?_, hs.glob⟩, fun _ _ => rfl, ⟨(setCells_os _ _ _ _).1, (setCells_os _ _ _ _).2.1, (setCells_os _ _ _ _).2.2, Nat.le_of_eq hsz.symm, ?_⟩, ?_, ?_, ?_, ?_⟩
  · intro x cs2 e2 own2 kin2 hgx
    by_cases hx : x = b
    · subst hx
      rw [hB, if_pos rfl] at hgx
      simp at hgx
      obtain ⟨rfl, rfl, rfl, rfl⟩ := hgx
      refine ⟨l, hρ, ⟨fun i v hi => ?_, ok.foreign, ok.mine, fun h j hj => ?_, by rw [hlen]; exact ok.fits, fun h h' => by rw [hlen]; exact ok.ends h h', ok.esz, by rw [hsz]; exact ok.lies, fun h1 h2 j => by rw [hfr]; exact ok.mark h1 h2 j⟩⟩
      · rw [hget] at hi
        split at hi
        · rename_i hc
          obtain ⟨v', hv1, hv2⟩ := hv.get hi
          refine ⟨v', ?_, hv2, h1 v (List.mem_of_getElem? hi)⟩
          have hlt : i - off < vs'.length := by rw [hvl]; omega
          have := World.cell?_setCells_in l.cb vs' (l.coff + off) w (fun j hj => by
            have hne : vs ≠ [] := by intro e; subst e; simp at hvl; rw [hvl] at hj; simp at hj
            have h5 := hfit hne
            have h6 := ok.fits
            exact (ok.there rfl (l.coff + off + j) (by rw [hvl] at hj; omega)).1) (i - off) hlt
          rw [show l.coff + off + (i - off) = l.coff + i by omega] at this
          rw [this]
          rw [← hv1, List.getElem?_eq_getElem hlt]
        · rename_i hc
          obtain ⟨v', hv1, hv2, hv3⟩ := ok.cells i v hi
          refine ⟨v', ?_, hv2, hv3⟩
          rw [hcell]
          · exact hv1
          · intro _ _
            simp only
            rw [hvl]
            omega
      · rw [hsome, hfr]; exact ok.there h j hj
    · obtain ⟨hA, _⟩ := hother x _ hx hgx (by simp)
      obtain ⟨l2, hl2, ok2⟩ := hs.rel.row _ _ _ _ _ hA
      refine ⟨l2, hl2, ⟨fun i v hi => ?_, ok2.foreign, ok2.mine, fun h j hj => ?_, ok2.fits, ok2.ends, ok2.esz, by rw [hsz]; exact ok2.lies, fun h1 h2 j => by rw [hfr]; exact ok2.mark h1 h2 j⟩⟩
      · rw [hfar x _ _ _ _ l2 hx hgx hl2 ok2 i (List.getElem?_eq_some_iff.1 hi).1]; exact ok2.cells i v hi
      · rw [hsome, hfr]; exact ok2.there h j hj
  · intro x es hgx
    have hx : x ≠ b := by intro e; subst e; rw [hB, if_pos rfl] at hgx; simp at hgx
    obtain ⟨hA, _⟩ := hother x _ hx hgx (by simp)
    obtain ⟨l2, hl2, ok2⟩ := hs.rel.map _ _ hA
    refine ⟨l2, hl2, ⟨ok2.mine, ?_⟩⟩
    obtain ⟨es', clock, h3, h4⟩ := ok2.lies
    refine ⟨es', clock, ?_, h4⟩
    rw [setCells_heap]
    · exact h3
    · intro e
      obtain ⟨_, _, _, e1, _⟩ := hs.rel.apart x b _ _ l2 l hx hA hg rfl hmineb hl2 hρ e
      simp [AObj.kin?] at e1
  · intro x s pos hgx
    have hx : x ≠ b := by intro e; subst e; rw [hB, if_pos rfl] at hgx; simp at hgx
    obtain ⟨hA, _⟩ := hother x _ hx hgx (by simp)
    obtain ⟨l2, hl2, ok2⟩ := hs.rel.iter _ _ _ hA
    refine ⟨l2, hl2, ⟨ok2.mine, ok2.lies.1, ?_⟩⟩
    rw [setCells_heap]
    · exact ok2.lies.2
    · intro e
      obtain ⟨_, _, _, e1, _⟩ := hs.rel.apart x b _ _ l2 l hx hA hg rfl hmineb hl2 hρ e
      simp [AObj.kin?] at e1
  · intro x st e t ps a c hgx
    have hx : x ≠ b := by intro e; subst e; rw [hB, if_pos rfl] at hgx; simp at hgx
    obtain ⟨hA, _⟩ := hother x _ hx hgx (by simp)
    obtain ⟨l2, hl2, ok2⟩ := hs.rel.loop _ _ _ _ _ _ _ hA
    refine ⟨l2, hl2, ⟨ok2.mine, ?_⟩⟩
    obtain ⟨fn, tmps, D, N, h3, h4⟩ := ok2.lies
    refine ⟨fn, tmps, D, N, ?_, h4⟩
    rw [setCells_heap]
    · exact h3
    · intro e
      obtain ⟨_, _, _, e1, _⟩ := hs.rel.apart x b _ _ l2 l hx hA hg rfl hmineb hl2 hρ e
      simp [AObj.kin?] at e1
  · -- apart
    have hto : ∀ x o, B.get x = some o → o.mine = true → ∃ o', A.get x = some o' ∧ o'.mine = true ∧ o'.kin? = o.kin? := by
      intro x o hx hm
      by_cases hxb : x = b
      · subst hxb
        rw [hB, if_pos rfl] at hx
        simp at hx
        subst hx
        exact ⟨_, hg, rfl, rfl⟩
      · exact ⟨o, (hother x o hxb hx (by intro e; subst e; simp [AObj.mine] at hm)).1, hm, rfl⟩
    intro b1 b2 o1 o2 l1 l2 hne h1' h2' m1 m2 r1 r2 hcb
    obtain ⟨p1, g1, n1, k1⟩ := hto _ _ h1' m1
    obtain ⟨p2, g2, n2, k2⟩ := hto _ _ h2' m2
    rw [← k1, ← k2]
    exact hs.rel.apart b1 b2 p1 p2 l1 l2 hne g1 g2 n1 n2 r1 r2 hcb
  · -- listed
    intro x o fam f hx hk
    rw [hmem]
    by_cases hxb : x = b
    · subst hxb
      rw [hB, if_pos rfl] at hx
      simp at hx
      subst hx
      exact hs.rel.listed x _ fam f hg hk
    · exact hs.rel.listed x o fam f (hother x o hxb hx (by intro e; subst e; simp [AObj.kin?] at hk)).1 hk
  · intro x l2 hx; rw [hnext]; exact hs.dom x l2 hx
  · rw [hsz]; exact hs.size
  · intro k hk hn
    refine setCells_heap _ (fun e => hn ⟨b, _, l, hg, rfl, hρ, e.symm⟩) _ _ _
  · exact Nat.le_of_eq hnext.symm
  · exact Nat.le_trans hlow.1 (Nat.min_le_left _ _)
  · intro x hx hxl
    by_cases hxb : x = b
    · subst hxb
      exact absurd (Nat.le_trans hlow.1 (Nat.min_le_right _ _)) (by omega)
    · cases Classical.em (B.get x = A.get x) with
      | inl h => exact h
      | inr h => have := hlow.2 x hxb h; omega
  · rintro k hk ⟨x, o, l2, hx, hm, hr, rfl⟩
    by_cases hxb : x = b
    · subst hxb
      rw [hρ] at hr; simp at hr; subst hr
      exact ⟨x, _, l, hg, rfl, hρ, rfl⟩
    · exact ⟨x, o, l2, (hother x o hxb hx (by intro e; subst e; simp [AObj.mine] at hm)).1, hm, hr, rfl⟩

theorem storeN_sound {P : Program} {ρ : Ren} {A B : St} {base : Nat} {w : World} {a : Addr} {vs vs' : List Value} {l : Loc} (hs : Sim ρ A base w) (hl : A.storeN a vs = some B) (hρ : ρ a.block = some l) (hv : VRL ρ vs vs') :
    ∃ w', (storeCells ⟨l.cb, l.coff + a.off, none⟩ vs').run P w = .ok () w' ∧ Goes base ρ A w ρ B w' := by
  simp only [St.storeN] at hl
  cases hp : (plainAddr a && vs.all scalar) with
  | false => simp [hp] at hl
  | true =>
    rw [hp, cond_true] at hl
    simp only [Bool.and_eq_true, List.all_eq_true] at hp
    split at hl
    · rename_i cs esz kin hg
      obtain ⟨cs', hw, rfl⟩ := Option.map_eq_some_iff.1 hl
      have hgo := write_sound (w := w) hs hg hw hv hp.2 hρ
      refine ⟨_, ?_, hgo⟩
      obtain ⟨l', hl', ok⟩ := hs.rel.row _ _ _ _ _ hg
      rw [hρ] at hl'; simp at hl'; subst hl'
      obtain ⟨_, hfit, _⟩ := writeN_spec hw
      have hvl : vs'.length = vs.length := hv.length
      have hin : ∀ j, j < vs'.length → l.coff + a.off + j < l.csize := fun j hj => by
        have hne : vs ≠ [] := by intro e; subst e; simp at hvl; rw [hvl] at hj; simp at hj
        have h5 := hfit hne
        have h6 := ok.fits
        rw [hvl] at hj
        omega
      have := run_storeCells_cells (P := P) l.cb (l.coff + a.off) vs' 0 w (fun j hj => (ok.there rfl _ (hin j hj)).1) (fun j hj => (ok.there rfl _ (hin j hj)).2) (fun v hv' => by
        obtain ⟨i, hi⟩ := List.getElem?_of_mem hv'
        have hlt : i < vs.length := by rw [← hvl]; exact (List.getElem?_eq_some_iff.1 hi).1
        obtain ⟨u, hu⟩ : ∃ u, vs[i]? = some u := ⟨vs[i], List.getElem?_eq_getElem hlt⟩
        obtain ⟨v2, h7, h8⟩ := hv.get hu
        rw [hi] at h7; simp at h7; subst h7
        exact h8.scalar (hp.2 u (List.mem_of_getElem? hu)))
      exact this
    · simp at hl

/-! ## New blocks -/
def Ren.set (ρ : Ren) (n : Nat) (l : Loc) : Ren := fun b => if b = n then some l else ρ b
theorem Ren.set_same (ρ : Ren) (n : Nat) (l : Loc) : ρ.set n l n = some l := by simp [Ren.set]
theorem Ren.set_other (ρ : Ren) {n b : Nat} (l : Loc) (h : b ≠ n) : ρ.set n l b = ρ b := by simp [Ren.set, h]
theorem Sim.le_set {ρ : Ren} {A : St} {base : Nat} {w : World} (hs : Sim ρ A base w) (l : Loc) : ρ.le (ρ.set A.next l) := by
  intro b l' e
  have := hs.dom b l' e
  rw [Ren.set_other ρ l (by omega)]
  exact e

theorem MRel.mono {ρ ρ' : Ren} (h : ρ.le ρ') : ∀ {es : List (Value × Value)} {l : List MapEntry}, MRel ρ es l → MRel ρ' es l
  | [], _, k => k
  | (k, v) :: es, l, m => by
    simp only [MRel] at m ⊢
    obtain ⟨e, r, e1, e2, e3, e4⟩ := m
    exact ⟨e, r, e1, e2.mono h, e3.mono h, MRel.mono h e4⟩

theorem MRel.back {ρ ρ' : Ren} (h : ρ.le ρ') : ∀ {es : List (Value × Value)} {u l : List MapEntry}, MRel ρ es u → MRel ρ' es l → MRel ρ es l
  | [], _, _, _, k => k
  | (k, v) :: es, u, l, hu, m => by
    simp only [MRel] at hu m ⊢
    obtain ⟨_, _, _, a1, a2, a3⟩ := hu
    obtain ⟨e, r, e1, e2, e3, e4⟩ := m
    exact ⟨e, r, e1, VR.back h a1 e2, VR.back h a2 e3, MRel.back h a3 e4⟩

def ObjOk (ρ : Ren) (base : Nat) (w : World) (l : Loc) : AObj → Prop
  | .row cs esz own kin => RowOk ρ base w l cs esz own kin
  | .map es => MapOk ρ base w l es
  | .iter s pos => IterOk base w l s pos
  | .dead => True
  | .loop st e t ps a c => LoopOk ρ base w l st e t ps a c

theorem Rel.obj {ρ : Ren} {get : Nat → Option AObj} {mem : Nat → List Nat} {base : Nat} {w : World} (h : Rel ρ get mem base w) {b : Nat} {o : AObj} (hg : get b = some o) (hd : o ≠ .dead) :
    ∃ l, ρ b = some l ∧ ObjOk ρ base w l o := by
  cases o with
  | row cs esz own kin => exact h.row _ _ _ _ _ hg
  | map es => exact h.map _ _ hg
  | iter s pos => exact h.iter _ _ _ hg
  | dead => exact absurd rfl hd
  | loop st e t ps a c => exact h.loop _ _ _ _ _ _ _ hg
theorem Rel.of_obj {ρ : Ren} {get : Nat → Option AObj} {mem : Nat → List Nat} {base : Nat} {w : World}
    (obj : ∀ b o, get b = some o → o ≠ .dead → ∃ l, ρ b = some l ∧ ObjOk ρ base w l o)
    (apart : ∀ b1 b2 o1 o2 l1 l2, b1 ≠ b2 → get b1 = some o1 → get b2 = some o2 → o1.mine = true → o2.mine = true → ρ b1 = some l1 → ρ b2 = some l2 → l1.cb = l2.cb →
      ∃ fam f1 f2, o1.kin? = some (fam, f1) ∧ o2.kin? = some (fam, f2) ∧ l1.coff + f2 = l2.coff + f1)
    (listed : ∀ b o fam f, get b = some o → o.kin? = some (fam, f) → b ∈ mem fam) : Rel ρ get mem base w :=
  ⟨fun b _ _ _ _ hg => obj b _ hg (by simp), fun b _ hg => obj b _ hg (by simp), fun b _ _ hg => obj b _ hg (by simp), fun b _ _ _ _ _ _ hg => obj b _ hg (by simp), apart, listed⟩

theorem ObjOk.lt {ρ : Ren} {base : Nat} {w : World} {l : Loc} {o : AObj} (h : ObjOk ρ base w l o) (hd : o ≠ .dead) : l.cb < w.heap.size := by
  have key : ∀ x, w.heap[l.cb]? = some x → l.cb < w.heap.size := fun x e => (Array.getElem?_eq_some_iff.1 e).1
  cases o with
  | row cs esz own kin => exact RowOk.lies h
  | map es => obtain ⟨es', c, e, _⟩ := MapOk.lies h; exact key _ e
  | iter s pos => exact key _ (IterOk.lies h).2
  | dead => exact absurd rfl hd
  | loop st e t ps a c => obtain ⟨_, _, _, _, q, _⟩ := LoopOk.lies h; exact key _ q

/-- a block keeps what is told of it where the concrete block stays -/
theorem ObjOk.keep {ρ ρ' : Ren} {base : Nat} {w w' : World} {l : Loc} {o : AObj} (h : ObjOk ρ base w l o) (hle : ρ.le ρ') (hb : w'.heap[l.cb]? = w.heap[l.cb]?) (hsz : w.heap.size ≤ w'.heap.size) : ObjOk ρ' base w' l o := by
  have hc : ∀ i, w'.cell? ⟨l.cb, i, none⟩ = w.cell? ⟨l.cb, i, none⟩ := fun i => by simp only [World.cell?, hb]
  have hf : ∀ i, w'.frozen? ⟨l.cb, i, none⟩ = w.frozen? ⟨l.cb, i, none⟩ := fun i => by simp only [World.frozen?, hb]
  cases o with
  | row cs esz own kin =>
    have ok : RowOk ρ base w l cs esz own kin := h
    exact ⟨fun i v hi => by obtain ⟨v', h1, h2, h3⟩ := ok.cells i v hi; exact ⟨v', by rw [hc]; exact h1, h2.mono hle, h3⟩, ok.foreign, ok.mine,
      fun h j hj => by rw [hc, hf]; exact ok.there h j hj, ok.fits, ok.ends, ok.esz, Nat.lt_of_lt_of_le ok.lies hsz, fun h1 h2 j => by rw [hf]; exact ok.mark h1 h2 j⟩
  | map es =>
    have ok : MapOk ρ base w l es := h
    obtain ⟨es', c, e, m⟩ := ok.lies
    exact ⟨ok.mine, es', c, by rw [hb]; exact e, m.mono hle⟩
  | iter s pos =>
    have ok : IterOk base w l s pos := h
    exact ⟨ok.mine, ok.lies.1, by rw [hb]; exact ok.lies.2⟩
  | dead => trivial
  | loop st e t ps a c =>
    have ok : LoopOk ρ base w l st e t ps a c := h
    obtain ⟨fn, tmps, D, N, q, r⟩ := ok.lies
    exact ⟨ok.mine, fn, tmps, D, N, by rw [hb]; exact q, r.mono hle⟩

theorem ObjOk.back {ρ ρ' : Ren} {base : Nat} {w w' : World} {l : Loc} {o : AObj} (hle : ρ.le ρ') (h : ObjOk ρ base w l o) (k : ObjOk ρ' base w' l o) : ObjOk ρ base w' l o := by
  cases o with
  | row cs esz own kin =>
    have a : RowOk ρ base w l cs esz own kin := h
    have b : RowOk ρ' base w' l cs esz own kin := k
    refine ⟨fun i v hi => ?_, b.foreign, b.mine, b.there, b.fits, b.ends, b.esz, b.lies, b.mark⟩
    obtain ⟨u, _, h2, _⟩ := a.cells i v hi
    obtain ⟨v', h3, h4, h5⟩ := b.cells i v hi
    exact ⟨v', h3, VR.back hle h2 h4, h5⟩
  | map es =>
    have a : MapOk ρ base w l es := h
    have b : MapOk ρ' base w' l es := k
    obtain ⟨u, _, _, m1⟩ := a.lies
    obtain ⟨es', c, e, m2⟩ := b.lies
    exact ⟨b.mine, es', c, e, m1.back hle m2⟩
  | iter s pos => exact k
  | dead => trivial
  | loop st e t ps c d =>
    have a : LoopOk ρ base w l st e t ps c d := h
    have b : LoopOk ρ' base w' l st e t ps c d := k
    obtain ⟨_, _, _, _, _, r1⟩ := a.lies
    obtain ⟨fn, tmps, D, N, q, r⟩ := b.lies
    exact ⟨b.mine, fn, tmps, D, N, q, r.size, fun i => VR.back hle (r1.val i) (r.val i), r.none, r.codes⟩

theorem new_sound {ρ : Ren} {A B : St} {base : Nat} {w : World} {o : AObj} {obj : Obj} {l : Loc} (hs : Sim ρ A base w)
    (hB : ∀ x, B.get x = if x = A.next then some o else A.get x) (hm : ∀ f x, x ∈ A.members f → x ∈ B.members f) (hk : ∀ fam f, o.kin? = some (fam, f) → A.next ∈ B.members fam)
    (hn : B.next = A.next + 1) (hlow : B.low ≤ A.low) (hsame : ∀ x, x < A.next → x < B.low → B.get x = A.get x) (hl : l.cb = w.heap.size) (hok : ObjOk (ρ.set A.next l) base (w.alloc obj) l o) :
    Goes base ρ A w (ρ.set A.next l) B (w.alloc obj) := by
  have hle := hs.le_set l
  have hold : ∀ k, k < w.heap.size → (w.alloc obj).heap[k]? = w.heap[k]? := fun k hk => RowKit.Below.heap_alloc _ _ _ hk
  have hsz : w.heap.size ≤ (w.alloc obj).heap.size := by simp
  have hlt : ∀ b l', ρ b = some l' → b ≠ A.next := fun b l' e => by have := hs.dom b l' e; omega
  have hgl : ∀ b o' l', A.get b = some o' → o' ≠ .dead → ρ b = some l' → l'.cb < w.heap.size := fun b o' l' hg hd hr => by
    obtain ⟨l2, e, ok⟩ := hs.rel.obj hg hd
    rw [hr] at e; simp at e; subst e
    exact ok.lt hd
  refine ⟨⟨.of_obj ?_ ?_ ?_, ?_, Nat.le_trans hs.size hsz, hs.glob.mono hle⟩, ?_, ⟨rfl, rfl, rfl, hsz, fun k hk _ => hold k hk⟩, by omega, hlow, hsame, ?_⟩
  · intro b o' hg hd
    rw [hB] at hg
    split at hg
    · rename_i e; subst e; simp at hg; subst hg; exact ⟨l, Ren.set_same _ _ _, hok⟩
    · rename_i e
      obtain ⟨l', h1, h2⟩ := hs.rel.obj hg hd
      exact ⟨l', hle _ _ h1, h2.keep hle (hold _ (h2.lt hd)) hsz⟩
  · intro b1 b2 o1 o2 l1 l2 hne g1 g2 m1 m2 r1 r2 hcb
    have hd1 : o1 ≠ .dead := by intro e; subst e; simp [AObj.mine] at m1
    have hd2 : o2 ≠ .dead := by intro e; subst e; simp [AObj.mine] at m2
    rw [hB] at g1 g2
    by_cases e1 : b1 = A.next
    · have e2 : b2 ≠ A.next := fun e => hne (e1.trans e.symm)
      rw [if_neg e2] at g2
      rw [e1, Ren.set_same] at r1
      rw [Ren.set_other _ _ e2] at r2
      simp at r1; subst r1
      have := hgl b2 o2 l2 g2 hd2 r2
      omega
    · rw [if_neg e1] at g1
      rw [Ren.set_other _ _ e1] at r1
      by_cases e2 : b2 = A.next
      · rw [e2, Ren.set_same] at r2
        simp at r2; subst r2
        have := hgl b1 o1 l1 g1 hd1 r1
        omega
      · rw [if_neg e2] at g2
        rw [Ren.set_other _ _ e2] at r2
        exact hs.rel.apart b1 b2 o1 o2 l1 l2 hne g1 g2 m1 m2 r1 r2 hcb
  · intro b o' fam f hg hk'
    rw [hB] at hg
    split at hg
    · rename_i e; subst e; simp at hg; subst hg; exact hk fam f hk'
    · exact hm fam b (hs.rel.listed b o' fam f hg hk')
  · intro b l' h
    rw [hn]
    by_cases e : b = A.next
    · omega
    · rw [Ren.set_other _ _ e] at h; have := hs.dom b l' h; omega
  · intro b hb; exact Ren.set_other _ _ (by omega)
  · rintro k hk ⟨b, o', l', hg, hm', hr, rfl⟩
    by_cases e : b = A.next
    · subst e
      rw [Ren.set_same] at hr
      simp at hr; subst hr
      omega
    · rw [hB, if_neg e] at hg
      rw [Ren.set_other _ _ e] at hr
      exact ⟨b, o', l', hg, hm', hr, rfl⟩

theorem Goes.drew {base : Nat} {ρ : Ren} {A : St} {w : World} (hs : Sim ρ A base w) : Goes base ρ A w ρ A w.drew :=
  ⟨⟨.of_obj (fun b o hg hd => by obtain ⟨l, h1, h2⟩ := hs.rel.obj hg hd; exact ⟨l, h1, h2.keep (Ren.le_refl _) rfl (Nat.le_refl _)⟩) hs.rel.apart hs.rel.listed, hs.dom, hs.size, hs.glob⟩,
    fun _ _ => rfl, ⟨rfl, rfl, rfl, Nat.le_refl _, fun _ _ _ => rfl⟩, Nat.le_refl _, Nat.le_refl _, fun _ _ _ => rfl, fun _ _ h => h⟩

/-- a new row whose end is its concrete row's -/
theorem newRow_sound {ρ : Ren} {A : St} {base : Nat} {w : World} {cs : List Value} {c : Array Value} {esz : Nat} (T : TypeId) (hs : Sim ρ A base w) (hc : VRL ρ cs c.toList) (h1 : ∀ v ∈ cs, scalar v = true) :
    Goes base ρ A w (ρ.set A.next ⟨w.heap.size, 0, cs.length, esz⟩) (A.new (.row cs esz true none)) (w.alloc (.cells c T)) := by
  have hlen : c.size = cs.length := hc.length
  refine new_sound (o := .row cs esz true none) hs (fun x => by simp) (fun f x h => by simpa using h) (fun fam f h => by simp [AObj.kin?] at h) (by simp) (by simp) (fun x hx _ => by simp; omega) rfl ?_
  refine ⟨fun i v hi => ?_, fun h => by simp at h, fun _ => hs.size, fun _ j hj => ?_, by simp, fun _ _ => by simp, rfl, by simp, fun _ _ j => by simp only; rw [World.frozen?_alloc_new]⟩
  · obtain ⟨v', h2, h3⟩ := hc.get hi
    refine ⟨v', ?_, h3.mono (hs.le_set _), h1 v (List.mem_of_getElem? hi)⟩
    rw [Nat.zero_add, World.cell?_alloc_new]
    simpa using h2
  · simp only at hj ⊢
    rw [World.cell?_alloc_new, World.frozen?_alloc_new]
    refine ⟨?_, rfl⟩
    rw [Array.getElem?_eq_getElem (by omega)]
    rfl
end Go.Abs
