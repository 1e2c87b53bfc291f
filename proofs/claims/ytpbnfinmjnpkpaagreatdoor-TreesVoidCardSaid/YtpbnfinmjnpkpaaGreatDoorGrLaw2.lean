/-
  Grammars: plain law: what may be empty, who reaches whom, all that is wrong (nulls, checks). No program in sight.
-/
import Derived.Test.YtpbnfinmjnpkpaaGreatDoorGrLaw
namespace Go.Proofs.YtpbnfinmjnpkpaaGreatDoor
namespace Gr
def noRule : Ru := ⟨[], 0, .mk 0 [] [] [] []⟩
def ruAt (rs : List Ru) (i : Nat) : Ru := rs.getD i noRule
def isTok (r : Ru) : Bool := r.sort != 0
def findR (rs : List Ru) (s : List UInt8) : Option Nat := rs.findIdx? fun r => r.name == s
/-- the rule that a node names in a rule's body, if it is of the sort for that -/
def namedR (rs : List Ru) (token : Bool) (n : Nd) : Option Nat := match findR rs n.name with
  | none => none
  | some i => if ((ruAt rs i).sort == 0) != (n.kind == 5) then none else if n.kind == 6 && !token then none else some i
mutual
/-- may a node be empty, as far as it is known? -/
def mayN (rs : List Ru) (e : List Bool) (token : Bool) : Nd → Bool
  | .mk k n t s l => match k with
    | 1 => mayAll rs e token l
    | 0 => mayAny rs e token l
    | 4 => mayAny rs e token l
    | 2 => true
    | 3 => true
    | 7 => true
    | 8 => t.isEmpty
    | 5 => match namedR rs token (.mk k n t s []) with
      | none => false
      | some i => e.getD i false
    | 6 => match namedR rs token (.mk k n t s []) with
      | none => false
      | some i => e.getD i false
    | _ => false
def mayAll (rs : List Ru) (e : List Bool) (token : Bool) : List Nd → Bool
  | [] => true
  | x :: l => mayN rs e token x && mayAll rs e token l
def mayAny (rs : List Ru) (e : List Bool) (token : Bool) : List Nd → Bool
  | [] => false
  | x :: l => mayN rs e token x || mayAny rs e token l
end
/-- one rule more is asked -/
def askE (rs : List Ru) (e : List Bool) (i : Nat) : List Bool := if e.getD i false = false ∧ mayN rs e (isTok (ruAt rs i)) (ruAt rs i).body = true then e.set i true else e
def passE (rs : List Ru) (e : List Bool) : List Bool := (List.range rs.length).foldl (askE rs) e
def knownE (rs : List Ru) : Nat → List Bool → List Bool
  | 0, e => e
  | f + 1, e => if passE rs e = e then e else knownE rs f (passE rs e)
/-- which rules may be empty -/
def emptyR (rs : List Ru) : List Bool := knownE rs (rs.length + 1) (List.replicate rs.length false)
mutual
/-- the rules that a node reaches at once -/
def toldN (rs : List Ru) (e : List Bool) (token : Bool) : Nd → List Nat
  | .mk k n t s l => match k with
    | 1 => toldSeq rs e token l
    | 0 => toldAll rs e token l
    | 2 => toldAll rs e token l
    | 3 => toldAll rs e token l
    | 4 => toldAll rs e token l
    | 7 => toldAll rs e token l
    | 5 => (namedR rs token (.mk k n t s [])).toList
    | 6 => (namedR rs token (.mk k n t s [])).toList
    | _ => []
def toldSeq (rs : List Ru) (e : List Bool) (token : Bool) : List Nd → List Nat
  | [] => []
  | x :: l => toldN rs e token x ++ (if mayN rs e token x = true then toldSeq rs e token l else [])
def toldAll (rs : List Ru) (e : List Bool) (token : Bool) : List Nd → List Nat
  | [] => []
  | x :: l => toldN rs e token x ++ toldAll rs e token l
end
/-- who goes on to whom, over one more -/
def overF (F : Nat → Nat → Bool) (b : Nat) : Nat → Nat → Bool := fun i k => F i k || (F i b && F b k)
def closeF (n : Nat) (F : Nat → Nat → Bool) : Nat → Nat → Bool := (List.range n).foldl overF F
def reachF (rs : List Ru) : Nat → Nat → Bool := closeF rs.length fun i k => (toldN rs (emptyR rs) (isTok (ruAt rs i)) (ruAt rs i).body).contains k
def names (n : Nd) : Bool := n.kind == 5 || n.kind == 6
/-- rules that are no parser's, by names -/
def roundOf (rs : List Ru) (r : Ru) : List Nat := (preT 1 r.body).filterMap fun x => match findR rs x.2.name with
  | none => none
  | some k => if names x.2 && isTok r && isTok (ruAt rs k) then some k else none
def roundF (rs : List Ru) : Nat → Nat → Bool := closeF rs.length fun i k => (roundOf rs (ruAt rs i)).contains k
def sortedR (r : Ru) (n : Nd) (sort : Nat) : Bool := if n.kind = 5 then r.sort == 0 && sort == 0 else if r.sort = 0 then sort == 1 else sort == 2
structure Pb where
  code : Nat
  rule : Int
  name : List UInt8
def nodesP (r : Ru) (i code : Nat) (wrong : Nd → Bool) (own : Bool) : List Pb := (preT 1 r.body).filterMap fun x => if wrong x.2 = true then some ⟨code, i, if own then r.name else x.2.name⟩ else none
def ruleP (rs : List Ru) (i : Nat) : List Pb :=
  (if decide ((findR rs (ruAt rs i).name).getD 0 < i) then [⟨1, i, (ruAt rs i).name⟩] else []) ++
  nodesP (ruAt rs i) i 2 (fun n => names n && (findR rs n.name).isNone) false ++
  nodesP (ruAt rs i) i 3 (fun n => names n && (match findR rs n.name with
    | none => false
    | some k => !sortedR (ruAt rs i) n (ruAt rs k).sort)) false ++
  (if (ruAt rs i).sort == 0 && reachF rs i i then [⟨4, i, (ruAt rs i).name⟩] else []) ++
  (if roundF rs i i then [⟨5, i, (ruAt rs i).name⟩] else []) ++
  nodesP (ruAt rs i) i 6 (fun n => (n.kind == 3 || n.kind == 4) && (match n.subs with
    | [] => false
    | x :: _ => mayN rs (emptyR rs) (isTok (ruAt rs i)) x)) true ++
  (if (emptyR rs).getD i false && ((ruAt rs i).sort == 1 || (ruAt rs i).sort == 3) then [⟨7, i, (ruAt rs i).name⟩] else [])
/-- all that is wrong -/
def checkR (rs : List Ru) : List Pb := (List.range rs.length).flatMap (ruleP rs) ++ (if rs.any (fun r => r.sort == 0) then [] else [⟨8, -1, []⟩])
def fineR (rs : List Ru) : Bool := (checkR rs).isEmpty
end Gr
end Go.Proofs.YtpbnfinmjnpkpaaGreatDoor
