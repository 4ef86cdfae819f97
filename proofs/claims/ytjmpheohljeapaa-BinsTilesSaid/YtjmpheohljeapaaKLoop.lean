/-
  Loops that are told whole: what they hand from round to round; a round, run alone by the machine K.
-/
import Derived.Test.YtjmpheohljeapaaKPure
namespace Go.K
open Go Go.Abs
noncomputable section

/-! ## What a loop hands from round to round -/
/- a cell: of a kind; a value that is known; a slice that grows -/
inductive CD where
  | k (c : CK)
  | lit (v : KV)
  | fam (t : TypeId)
def litOk : KV → KV → Bool
  | .fn (.func f) [] [], .fn (.func g) [] [] => Nat.beq f g
  | .nilp, .nilp => true
  | .nilsl, .nilsl => true
  | .nilmap, .nilmap => true
  | .nilfn, .nilfn => true
  | .nilif, .nilif => true
  | _, _ => false
def normCD (P : Program) (d : CD) (v : KV) : KV :=
  match d with
  | .k c => cond (kindOk c (normC c v)) (canonC P canonD (leaf c (normC c v))) .unk
  | .lit w => cond (litOk w v) w .unk
  | .fam t => match v with
    | .nilsl => canonC P canonD (.ts t .any 0 [] defAcc0)
    | .ts t' (.fam _) n es acc => cond (Nat.beq t t') (canonC P canonD (.ts t .any n es acc)) .unk
    | _ => .unk
def normCDs (P : Program) : List CD → List KV → List KV
  | d :: ds, v :: vs => normCD P d v :: normCDs P ds vs
  | _, _ => []
def goodCD (d : CD) (v : KV) : Bool :=
  match d with
  | .k c => kindOk c v
  | .lit w => litOk w v
  | .fam t => kindOk (.slice t) v
def goodCDs : List CD → List KV → Bool
  | [], [] => true
  | d :: ds, v :: vs => goodCD d v && goodCDs ds vs
  | _, _ => false
structure VD where
  agg : Bool
  ks : List CD
def normVD (P : Program) (d : VD) (v : KV) : KV :=
  match v with
  | .agg cs => cond (d.agg && Nat.beq cs.length d.ks.length) (.agg (normCDs P d.ks cs)) .unk
  | v => cond d.agg .unk (match d.ks with
    | [c] => normCD P c v
    | _ => .unk)
def goodVD (d : VD) (v : KV) : Bool :=
  match v with
  | .agg cs => d.agg && goodCDs d.ks cs
  | v => !d.agg && goodCDs d.ks [v]
/- what a loop hands on: temporaries' values; rows, each by a temporary that points into it; temporaries that point into the rows -/
structure LSpec where
  vals : List (Tmp × VD)
  rows : List (Tmp × List CD × Nat)
  ptrs : List (Tmp × Nat × Nat)
def valOf (t : KTm) (i : Tmp) : KV := (t.get i).getD .unk
def grabV (P : Program) (t : KTm) : List (Tmp × VD) → List KV
  | [] => []
  | p :: ps => normVD P p.2 (valOf t p.1) :: grabV P t ps
def goodVDs : List (Tmp × VD) → List KV → Bool
  | [], [] => true
  | p :: ps, v :: vs => goodVD p.2 v && goodVDs ps vs
  | _, _ => false
def rowOf (t : KTm) (A : KSt) (p : Tmp × List CD × Nat) : Option (Nat × List KV) :=
  match t.get p.1 with
  | some (.ptr b _) => match A.get b with
    | some (.row cs e) => cond (Nat.beq e p.2.2 && Nat.beq cs.length p.2.1.length) (some (b, cs)) none
    | _ => none
  | _ => none
def rowB (t : KTm) (A : KSt) (p : Tmp × List CD × Nat) : Nat := ((rowOf t A p).getD (0, [])).1
def rowC (t : KTm) (A : KSt) (p : Tmp × List CD × Nat) : List KV := ((rowOf t A p).getD (0, [])).2
def grabB (t : KTm) (A : KSt) : List (Tmp × List CD × Nat) → List Nat
  | [] => []
  | p :: ps => rowB t A p :: grabB t A ps
def grabR (P : Program) (t : KTm) (A : KSt) : List (Tmp × List CD × Nat) → List (List KV)
  | [] => []
  | p :: ps => normCDs P p.2.1 (rowC t A p) :: grabR P t A ps
def rowsOk (P : Program) (t : KTm) (A : KSt) : List (Tmp × List CD × Nat) → Bool
  | [] => true
  | p :: ps => (rowOf t A p).isSome && (goodCDs p.2.1 (normCDs P p.2.1 (rowC t A p)) && rowsOk P t A ps)
def ptrOk (v : Option KV) (b : Option Nat) (off : Nat) : Bool :=
  match v, b with
  | some (.ptr b o), some b' => Nat.beq o off && Nat.beq b b'
  | _, _ => false
def ptrsOk (t : KTm) (bs : List Nat) : List (Tmp × Nat × Nat) → Bool
  | [] => true
  | p :: ps => ptrOk (t.get p.1) bs[p.2.1]? p.2.2 && ptrsOk t bs ps
def nodupK : List Nat → Bool
  | [] => true
  | b :: bs => bs.all (fun c => !Nat.beq b c) && nodupK bs
/- slices that grow -/
structure FI where
  ok : Bool
  f : Option Nat
def szL (P : Program) (t : TypeId) : Nat := (layF P t).ks.length
def famOf (P : Program) (A : KSt) (t : TypeId) (v : KV) : FI :=
  match v with
  | .nilsl => ⟨true, none⟩
  | .ts _ (.fam f) n _ _ => match A.get f with
    | some (.fam top sz) => ⟨cond (Nat.beq sz (szL P t)) (topOk top n) false, some f⟩
    | _ => ⟨false, none⟩
  | _ => ⟨false, none⟩
def famsC (P : Program) (A : KSt) : List CD → List KV → List FI
  | .fam t :: ds, v :: vs => famOf P A t v :: famsC P A ds vs
  | _ :: ds, _ :: vs => famsC P A ds vs
  | _, _ => []
def famsV (P : Program) (t : KTm) (A : KSt) : List (Tmp × VD) → List FI
  | [] => []
  | p :: ps => famsC P A p.2.ks (valOf t p.1).cells ++ famsV P t A ps
def famsR (P : Program) (t : KTm) (A : KSt) : List (Tmp × List CD × Nat) → List FI
  | [] => []
  | p :: ps => famsC P A p.2.1 (rowC t A p) ++ famsR P t A ps
def fisOk : List FI → Bool
  | [] => true
  | x :: xs => cond (fisOk xs) x.ok false
def idsOf : List FI → List (Option Nat)
  | [] => []
  | x :: xs => x.f :: idsOf xs
def someK : List (Option Nat) → List Nat
  | [] => []
  | some f :: xs => f :: someK xs
  | none :: xs => someK xs
structure GR where
  ok : Bool
  bs : List Nat
  fs : List (Option Nat)
  vs : List KV
  rs : List (List KV)
def LSpec.fis (S : LSpec) (P : Program) (t : KTm) (A : KSt) : List FI := famsV P t A S.vals ++ famsR P t A S.rows
def LSpec.grab (S : LSpec) (P : Program) (t : KTm) (A : KSt) : GR :=
  ⟨cond (rowsOk P t A S.rows && nodupK (grabB t A S.rows) && ptrsOk t (grabB t A S.rows) S.ptrs && goodVDs S.vals (grabV P t S.vals) && nodupK (someK (idsOf (S.fis P t A)))) (fisOk (S.fis P t A)) false,
    grabB t A S.rows, idsOf (S.fis P t A), grabV P t S.vals, grabR P t A S.rows⟩
/- the same, with its slices that grow named from j on -/
def setFam (j : Nat) (v : KV) : KV :=
  match v with
  | .ts t _ n es acc => .ts t (.fam j) n es acc
  | v => v
def famN : List CD → Nat
  | [] => 0
  | .fam _ :: ds => Nat.succ (famN ds)
  | _ :: ds => famN ds
def reCDs (j : Nat) : List CD → List KV → List KV
  | .fam _ :: ds, v :: vs => setFam j v :: reCDs (Nat.succ j) ds vs
  | _ :: ds, v :: vs => v :: reCDs j ds vs
  | _, _ => []
def reVD (j : Nat) (d : VD) (v : KV) : KV :=
  match v with
  | .agg cs => .agg (reCDs j d.ks cs)
  | v => match d.ks with
    | [.fam _] => setFam j v
    | _ => v
def reVs (j : Nat) : List (Tmp × VD) → List KV → List (Nat × KV)
  | p :: ps, v :: vs => (p.1, reVD j p.2 v) :: reVs (j + famN p.2.ks) ps vs
  | _, _ => []
def famNV : List (Tmp × VD) → Nat
  | [] => 0
  | p :: ps => famN p.2.ks + famNV ps
def reRs (j : Nat) : List (Tmp × List CD × Nat) → List (List KV) → List (List KV)
  | p :: ps, r :: rs => reCDs j p.2.1 r :: reRs (j + famN p.2.1) ps rs
  | _, _ => []
/- how long they are, and how large -/
def lensC (P : Program) : List CD → List KV → List (Nat × Nat)
  | .fam t :: ds, v :: vs => (lenOf v, szL P t) :: lensC P ds vs
  | _ :: ds, _ :: vs => lensC P ds vs
  | _, _ => []
def lensV (P : Program) : List (Tmp × VD) → List KV → List (Nat × Nat)
  | p :: ps, v :: vs => lensC P p.2.ks v.cells ++ lensV P ps vs
  | _, _ => []
def lensR (P : Program) : List (Tmp × List CD × Nat) → List (List KV) → List (Nat × Nat)
  | p :: ps, r :: rs => lensC P p.2.1 r ++ lensR P ps rs
  | _, _ => []
def LSpec.lens (S : LSpec) (P : Program) (vs : List KV) (rs : List (List KV)) : List (Nat × Nat) := lensV P S.vals vs ++ lensR P S.rows rs
def ptrPairs (bs : List Nat) : List (Tmp × Nat × Nat) → List (Nat × KV)
  | [] => []
  | p :: ps => (p.1, .ptr (bs.getD p.2.1 0) p.2.2) :: ptrPairs bs ps
def LSpec.tm (S : LSpec) (fb : Nat) (bs : List Nat) (vs : List KV) : KTm := ofPairs (reVs fb S.vals vs ++ ptrPairs bs S.ptrs)
def LSpec.rows' (S : LSpec) (fb : Nat) (rs : List (List KV)) : List (List KV) := reRs (fb + famNV S.vals) S.rows rs
def addFams (A : KSt) : List (Nat × Nat) → KSt
  | [] => A
  | p :: ps => addFams (A.new (.fam p.1 p.2)) ps
def killF (A : KSt) : List (Option Nat) → KSt
  | [] => A
  | some f :: fs => killF (A.put f .dead) fs
  | none :: fs => killF A fs
def backRows (A : KSt) : List Nat → List (Tmp × List CD × Nat) → List (List KV) → KSt
  | b :: bs, p :: ps, r :: rs => backRows (A.put b (.row r p.2.2)) bs ps rs
  | _, _, _ => A
def LSpec.back (S : LSpec) (P : Program) (bs : List Nat) (fs : List (Option Nat)) (vs : List KV) (rs : List (List KV)) (A : KSt) : KSt :=
  addFams (killF (backRows A bs S.rows (S.rows' A.next rs)) fs) (S.lens P vs rs)
def memRows (A : KSt) : List (Tmp × List CD × Nat) → List (List KV) → KSt
  | p :: ps, r :: rs => memRows (A.new (.row r p.2.2)) ps rs
  | _, _ => A
def LSpec.nr (S : LSpec) : Nat := S.rows.length
def LSpec.mem (S : LSpec) (P : Program) (vs : List KV) (rs : List (List KV)) : KSt := addFams (memRows .empty S.rows (S.rows' S.nr rs)) (S.lens P vs rs)
def upto : Nat → List Nat → List Nat
  | 0, l => l
  | n + 1, l => upto n (n :: l)
def LSpec.ids (S : LSpec) : List Nat := upto S.rows.length []
def sameIds : List Nat → List Nat → Bool
  | [], [] => true
  | a :: as, b :: bs => Nat.beq a b && sameIds as bs
  | _, _ => false
/-- one round -/
def roundK (P : Program) (cfg : Cfg) (L n : Nat) (f : FuncId) (p : Nat) (body : Code) (S : LSpec) (vs : List KV) (rs : List (List KV)) : Option (AExit × List KV × List (List KV)) :=
  codeK P cfg (icallK P cfg L n) L f body (2 * p) (fun e t A =>
    Bool.rec (motive := fun _ => Option (AExit × List KV × List (List KV))) none (some (e, (S.grab P t A).vs, (S.grab P t A).rs)) (cond (sameIds (S.grab P t A).bs S.ids) (S.grab P t A).ok false)) (S.tm S.nr S.ids vs) (S.mem P vs rs)
def isNormal : AExit → Bool
  | .normal => true
  | _ => false
def iterK (rd : List KV → List (List KV) → Option (AExit × List KV × List (List KV))) : Nat → List KV → List (List KV) → Option (AExit × List KV × List (List KV))
  | 0, _, _ => none
  | n + 1, vs, rs => match rd vs rs with
    | some (e, vs', rs') => cond (isNormal e) (iterK rd n vs' rs') (some (e, vs', rs'))
    | none => none
/-- what a loop comes to, over what it hands on -/
inductive LTell where
  | no
  | out (e : AExit) (vs : List KV) (rs : List (List KV))
  | br (c : Bool) (x y : LTell)
def LTell.ev : LTell → Option (AExit × List KV × List (List KV))
  | .no => none
  | .out e vs rs => some (e, vs, rs)
  | .br c x y => cond c x.ev y.ev
def LTell.tell (P : Program) (S : LSpec) (bs : List Nat) (fs : List (Option Nat)) (A : KSt) : LTell → Tell
  | .no => .no
  | .out e vs rs => .out e (S.tm A.next bs vs) (S.back P bs fs vs rs A)
  | .br c x y => .br c (x.tell P S bs fs A) (y.tell P S bs fs A)
abbrev LFn := List KV → List (List KV) → LTell
def mkLp (P : Program) (S : LSpec) (F : LFn) : KTm → KSt → Tell := fun t A =>
  .br (S.grab P t A).ok ((F (S.grab P t A).vs (S.grab P t A).rs).tell P S (S.grab P t A).bs (S.grab P t A).fs A) .no
end
end Go.K
