/-
  Grammars: plain law: nodes, names; which nodes may be; which grammars are sound (nodes.Plain, grams.Sound). No program in sight.
-/
namespace Go.Proofs.YtpbnfinmjnpkpaaGreatDoor
namespace Gr
/-- a node of a rule -/
inductive Nd where
  | mk (kind : Nat) (name text : List UInt8) (set : List (Int × Int)) (subs : List Nd)
def Nd.kind : Nd → Nat | .mk k _ _ _ _ => k
def Nd.name : Nd → List UInt8 | .mk _ n _ _ _ => n
def Nd.text : Nd → List UInt8 | .mk _ _ t _ _ => t
def Nd.set : Nd → List (Int × Int) | .mk _ _ _ s _ => s
def Nd.subs : Nd → List Nd | .mk _ _ _ _ l => l
structure Ru where
  name : List UInt8
  sort : Nat
  body : Nd
structure Gm where
  name : List UInt8
  bound : Int
  states : Int
  rules : List Ru
mutual
/-- all nodes of one, each with how deep it lies; it first -/
def preT (d : Nat) : Nd → List (Nat × Nd)
  | .mk k n t s l => (d, .mk k n t s l) :: preL (d + 1) l
def preL (d : Nat) : List Nd → List (Nat × Nd)
  | [] => []
  | x :: l => preT d x ++ preL d l
end
theorem preT_eq (d : Nat) (n : Nd) : preT d n = (d, n) :: preL (d + 1) n.subs := by cases n; simp [preT, Nd.subs]
theorem preL_nil (d : Nat) : preL d [] = [] := by simp [preL]
theorem preL_cons (d : Nat) (x : Nd) (l : List Nd) : preL d (x :: l) = preT d x ++ preL d l := by simp [preL]
theorem preL_append (d : Nat) : ∀ (l m : List Nd), preL d (l ++ m) = preL d l ++ preL d m
  | [], m => by simp [preL_nil]
  | x :: l, m => by rw [List.cons_append, preL_cons, preL_cons, preL_append d l m, List.append_assoc]
mutual
/-- the same, with depths that are reckoned by inc -/
def preI (inc : Int → Int) (d : Int) : Nd → List (Int × Nd)
  | .mk k n t s l => (d, .mk k n t s l) :: preIL inc (inc d) l
def preIL (inc : Int → Int) (d : Int) : List Nd → List (Int × Nd)
  | [] => []
  | x :: l => preI inc d x ++ preIL inc d l
end
theorem preI_eq (inc : Int → Int) (d : Int) (n : Nd) : preI inc d n = (d, n) :: preIL inc (inc d) n.subs := by cases n; simp [preI, Nd.subs]
theorem preIL_nil (inc : Int → Int) (d : Int) : preIL inc d [] = [] := by simp [preIL]
theorem preIL_cons (inc : Int → Int) (d : Int) (x : Nd) (l : List Nd) : preIL inc d (x :: l) = preI inc d x ++ preIL inc d l := by simp [preIL]
def deepOk (p : Nd → Bool) (x : Nat × Nd) : Bool := decide (x.1 ≤ 64) && p x.2
def deepOkI (p : Nd → Bool) (x : Int × Nd) : Bool := decide (x.1 ≤ 64) && p x.2
mutual
theorem all_preI {inc : Int → Int} (hi : ∀ d : Nat, d ≤ 64 → inc (d : Int) = ((d + 1 : Nat) : Int)) (p : Nd → Bool) : ∀ (n : Nd) (d : Nat), d ≤ 65 → (preI inc (d : Int) n).all (deepOkI p) = (preT d n).all (deepOk p)
  | .mk k nm t s l, d, hd => by
    rw [preI_eq, preT_eq, List.all_cons, List.all_cons]
    show (deepOkI p ((d : Int), Nd.mk k nm t s l) && (preIL inc (inc (d : Int)) l).all (deepOkI p)) = (deepOk p (d, Nd.mk k nm t s l) && (preL (d + 1) l).all (deepOk p))
    by_cases h : d ≤ 64
    · rw [hi d h, all_preIL hi p l (d + 1) (by omega)]
      unfold deepOkI deepOk
      rw [show decide ((d : Int) ≤ 64) = decide (d ≤ 64) from decide_eq_decide.2 (by omega)]
    · unfold deepOkI deepOk
      rw [decide_eq_false (show ¬ (d : Int) ≤ 64 by omega), decide_eq_false h]
      rfl
theorem all_preIL {inc : Int → Int} (hi : ∀ d : Nat, d ≤ 64 → inc (d : Int) = ((d + 1 : Nat) : Int)) (p : Nd → Bool) : ∀ (l : List Nd) (d : Nat), d ≤ 65 → (preIL inc (d : Int) l).all (deepOkI p) = (preL d l).all (deepOk p)
  | [], d, _ => by rw [preIL_nil, preL_nil]; rfl
  | x :: l, d, hd => by rw [preIL_cons, preL_cons, List.all_append, List.all_append, all_preI hi p x d hd, all_preIL hi p l d hd]
end
mutual
theorem len_preI {inc : Int → Int} : ∀ (n : Nd) (d : Int) (e : Nat), (preI inc d n).length = (preT e n).length
  | .mk k nm t s l, d, e => by
    rw [preI_eq, preT_eq, List.length_cons, List.length_cons]
    exact congrArg (· + 1) (len_preIL l (inc d) (e + 1))
theorem len_preIL {inc : Int → Int} : ∀ (l : List Nd) (d : Int) (e : Nat), (preIL inc d l).length = (preL e l).length
  | [], d, e => by rw [preIL_nil, preL_nil]; rfl
  | x :: l, d, e => by rw [preIL_cons, preL_cons, List.length_append, List.length_append, len_preI x d e, len_preIL l d e]
end
def lowB (b : UInt8) : Bool := 97 ≤ b && b ≤ 122
def bigB (b : UInt8) : Bool := 65 ≤ b && b ≤ 90
def restB (b : UInt8) : Bool := lowB b || bigB b || (48 ≤ b && b ≤ 57) || b == 95
/-- a name that begins with one of these -/
def nameOk (first : UInt8 → Bool) (s : List UInt8) : Bool := match s with
  | [] => false
  | b :: r => decide (r.length < 64) && first b && (b :: r).all restB
/-- runes that are -/
def runeOk (r : Int) : Bool := decide (0 ≤ r ∧ r < 0xD800) || decide (0xDFFF < r ∧ r ≤ 0x10FFFF)
def badR (r : Int × Int) : Bool := decide (r.2 < r.1) || !runeOk r.1 || !runeOk r.2
/-- has a node nothing that its kind does not have? -/
def bare (n : Nd) : Bool :=
  if n.kind = 5 ∨ n.kind = 6 then n.text.isEmpty && n.set.isEmpty
  else if n.kind = 8 then n.name.isEmpty && n.set.isEmpty
  else if n.kind = 9 then n.name.isEmpty && n.text.isEmpty
  else n.name.isEmpty && n.text.isEmpty && n.set.isEmpty
/-- is a node, its Subs let be? (bytes: is a text of runes?) -/
def plain (bytes : List UInt8 → Bool) (n : Nd) (token : Bool) : Bool :=
  bare n && match n.kind with
  | 0 => decide (2 ≤ n.subs.length) && decide (n.subs.length ≤ 32)
  | 1 => !decide (n.subs.length = 1) && !(n.subs.drop 1).any fun s => s.kind == 7
  | 2 => decide (n.subs.length = 1)
  | 3 => decide (n.subs.length = 1)
  | 4 => decide (n.subs.length = 1)
  | 7 => decide (n.subs.length = 1) && !token
  | 5 => decide (n.subs.length = 0) && !token && nameOk lowB n.name
  | 6 => decide (n.subs.length = 0) && nameOk bigB n.name
  | 8 => decide (n.subs.length = 0) && token && (!n.text.isEmpty && bytes n.text)
  | 9 => decide (n.subs.length = 0) && token && decide (0 < n.set.length) && !n.set.any badR
  | _ => false
def plainAll (bytes : List UInt8 → Bool) (n : Nd) (token : Bool) : Bool := decide ((preT 1 n).length ≤ 2048) && (preT 1 n).all fun x => decide (x.1 ≤ 64) && plain bytes x.2 token
def keptWords : List (List UInt8) := ["grammar".toUTF8.toList, "options".toUTF8.toList, "fragment".toUTF8.toList, "skip".toUTF8.toList]
def kept (s : List UInt8) : Bool := keptWords.any fun k => k == s
def wordOk (s : List UInt8) : Bool := nameOk lowB s || nameOk bigB s
def namedOk (s : List UInt8) (sort : Nat) : Bool := nameOk (if sort = 0 then lowB else bigB) s && !kept s
def ruleOk (bytes : List UInt8 → Bool) (r : Ru) : Bool := decide (r.sort ≤ 3) && namedOk r.name r.sort && plainAll bytes r.body (decide (r.sort ≠ 0))
def sound (bytes : List UInt8 → Bool) (g : Gm) : Bool := wordOk g.name && decide (1 ≤ g.bound) && decide (g.bound ≤ 8) && decide (1 ≤ g.states) && decide (g.states ≤ 4096) && decide (g.rules.length ≤ 64) && g.rules.all (ruleOk bytes)
end Gr
end Go.Proofs.YtpbnfinmjnpkpaaGreatDoor
