/-
  Loops that are told whole: a round, run alone by the machine K, is a round of the loop.
-/
import Derived.Test.YtadjalkkhkkdiaaKPure
namespace Go.K
open Go Go.Abs
noncomputable section

/-! ## What a loop hands from round to round -/
inductive CD where
  | k (c : CK)
  | lit (v : KV)
def litOk : KV → KV → Bool
  | .fn (.func f) [] [], .fn (.func g) [] [] => Nat.beq f g
  | .nilp, .nilp => true
  | .nilsl, .nilsl => true
  | .nilmap, .nilmap => true
  | .nilfn, .nilfn => true
  | .nilif, .nilif => true
  | _, _ => false
def normCD (d : CD) (v : KV) : KV :=
  match d with
  | .k c => normC c v
  | .lit w => cond (litOk w v) w .unk
def normCDs : List CD → List KV → List KV
  | d :: ds, v :: vs => normCD d v :: normCDs ds vs
  | _, _ => []
def goodCD (d : CD) (v : KV) : Bool :=
  match d with
  | .k c => kindOk c v
  | .lit w => litOk w v
def goodCDs : List CD → List KV → Bool
  | [], [] => true
  | d :: ds, v :: vs => goodCD d v && goodCDs ds vs
  | _, _ => false
structure VD where
  agg : Bool
  ks : List CD
def normVD (d : VD) (v : KV) : KV :=
  match v with
  | .agg cs => cond (d.agg && Nat.beq cs.length d.ks.length) (.agg (normCDs d.ks cs)) .unk
  | v => cond d.agg .unk (match d.ks with
    | [c] => normCD c v
    | _ => .unk)
def goodVD (d : VD) (v : KV) : Bool :=
  match v with
  | .agg cs => d.agg && goodCDs d.ks cs
  | v => !d.agg && goodCDs d.ks [v]
/- what a loop hands on: temporaries' values; rows, each by a temporary that points into it; temporaries that point into the rows -/
structure LSpec where
  vals : List (Tmp × VD)
  rows : List (Tmp × List CD × Nat)
  ptrs : List (Tmp × Nat × Nat)
def grabV (t : KTm) : List (Tmp × VD) → List KV
  | [] => []
  | p :: ps => normVD p.2 ((t.get p.1).getD .unk) :: grabV t ps
def goodVDs : List (Tmp × VD) → List KV → Bool
  | [], [] => true
  | p :: ps, v :: vs => goodVD p.2 v && goodVDs ps vs
  | _, _ => false
def grabR (t : KTm) (A : KSt) : List (Tmp × List CD × Nat) → Option (List Nat × List (List KV))
  | [] => some ([], [])
  | p :: ps => match t.get p.1 with
    | some (.ptr b _) => match A.get b with
      | some (.row cs e) => cond (Nat.beq e p.2.2 && Nat.beq cs.length p.2.1.length && goodCDs p.2.1 (normCDs p.2.1 cs)) ((grabR t A ps).map fun q => (b :: q.1, normCDs p.2.1 cs :: q.2)) none
      | _ => none
    | _ => none
def ptrOk (v : Option KV) (b : Option Nat) (off : Nat) : Bool :=
  match v, b with
  | some (.ptr b o), some b' => Nat.beq o off && Nat.beq b b'
  | _, _ => false
def ptrsOk (t : KTm) (bs : List Nat) : List (Tmp × Nat × Nat) → Bool
  | [] => true
  | p :: ps => ptrOk (t.get p.1) bs[p.2.1]? p.2.2 && ptrsOk t bs ps
def nodupK : List Nat → Bool
  | [] => true
  | b :: bs => bs.all (fun c => !Nat.beq b c) && nodupK bs
def LSpec.grab (S : LSpec) (t : KTm) (A : KSt) : Option (List Nat × List KV × List (List KV)) :=
  (grabR t A S.rows).bind fun q => cond (nodupK q.1 && ptrsOk t q.1 S.ptrs && goodVDs S.vals (grabV t S.vals)) (some (q.1, grabV t S.vals, q.2)) none
def zipV : List (Tmp × VD) → List KV → List (Nat × KV)
  | p :: ps, v :: vs => (p.1, v) :: zipV ps vs
  | _, _ => []
def ptrPairs (bs : List Nat) : List (Tmp × Nat × Nat) → List (Nat × KV)
  | [] => []
  | p :: ps => (p.1, .ptr (bs.getD p.2.1 0) p.2.2) :: ptrPairs bs ps
def LSpec.tm (S : LSpec) (bs : List Nat) (vs : List KV) : KTm := ofPairs (zipV S.vals vs ++ ptrPairs bs S.ptrs)
def backRows (A : KSt) : List Nat → List (Tmp × List CD × Nat) → List (List KV) → KSt
  | b :: bs, p :: ps, r :: rs => backRows (A.put b (.row r p.2.2)) bs ps rs
  | _, _, _ => A
def LSpec.back (S : LSpec) (bs : List Nat) (rs : List (List KV)) (A : KSt) : KSt := backRows A bs S.rows rs
def memRows (A : KSt) : List (Tmp × List CD × Nat) → List (List KV) → KSt
  | p :: ps, r :: rs => memRows (A.new (.row r p.2.2)) ps rs
  | _, _ => A
def LSpec.mem (S : LSpec) (rs : List (List KV)) : KSt := memRows .empty S.rows rs
def upto : Nat → List Nat → List Nat
  | 0, l => l
  | n + 1, l => upto n (n :: l)
def LSpec.ids (S : LSpec) : List Nat := upto S.rows.length []
def sameIds : List Nat → List Nat → Bool
  | [], [] => true
  | a :: as, b :: bs => Nat.beq a b && sameIds as bs
  | _, _ => false
/-- one round -/
def roundK (P : Program) (cfg : Cfg) (L n : Nat) (f : FuncId) (p : Nat) (body : Code) (S : LSpec) (vs : List KV) (rs : List (List KV)) : Option (AExit × List KV × List (List KV)) :=
  codeK P cfg (icallK P cfg L n) L f body (2 * p) (fun e t A => match S.grab t A with
    | some q => Bool.rec (motive := fun _ => Option (AExit × List KV × List (List KV))) none (some (e, q.2.1, q.2.2)) (sameIds q.1 S.ids)
    | none => none) (S.tm S.ids vs) (S.mem rs)
def isNormal : AExit → Bool
  | .normal => true
  | _ => false
def iterK (rd : List KV → List (List KV) → Option (AExit × List KV × List (List KV))) : Nat → List KV → List (List KV) → Option (AExit × List KV × List (List KV))
  | 0, _, _ => none
  | n + 1, vs, rs => match rd vs rs with
    | some (e, vs', rs') => cond (isNormal e) (iterK rd n vs' rs') (some (e, vs', rs'))
    | none => none
/-- what a loop comes to, over what it hands on -/
inductive LTell where
  | no
  | out (e : AExit) (vs : List KV) (rs : List (List KV))
  | br (c : Bool) (x y : LTell)
def LTell.ev : LTell → Option (AExit × List KV × List (List KV))
  | .no => none
  | .out e vs rs => some (e, vs, rs)
  | .br c x y => cond c x.ev y.ev
def LTell.tell (S : LSpec) (bs : List Nat) (A : KSt) : LTell → Tell
  | .no => .no
  | .out e vs rs => .out e (S.tm bs vs) (S.back bs rs A)
  | .br c x y => .br c (x.tell S bs A) (y.tell S bs A)
abbrev LFn := List KV → List (List KV) → LTell
def mkLp (S : LSpec) (F : LFn) : KTm → KSt → Tell := fun t A =>
  match S.grab t A with
  | some q => (F q.2.1 q.2.2).tell S q.1 A
  | none => .no
/-- what is known of what is handed on -/
structure StOk (P : Program) (S : LSpec) (vs : List KV) (rs : List (List KV)) : Prop where
  lenr : rs.length = S.rows.length
  v : goodVDs S.vals vs = true
  r : ∀ (k : Nat) p, S.rows[k]? = some p → ∃ r, rs[k]? = some r ∧ goodCDs p.2.1 r = true
  tv : ∀ v ∈ vs, ∀ c ∈ v.cells, ∀ T m n es acc, c = .ts T m n es acc → TreeOk P T n es acc
  tr : ∀ r ∈ rs, ∀ c ∈ r, ∀ T m n es acc, c = .ts T m n es acc → TreeOk P T n es acc
end
end Go.K
