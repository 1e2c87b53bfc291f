/-
  Nets and automata: plain: what they are, which may be. (The same text as in DrvLaw and DrvVal.)
-/
namespace Go.Proofs.YtnpcjbdolmmaeaaGreatDoor
namespace Drv
structure Ed where
  kind : Int
  what : Int
  to : Int
structure NSt where
  rule : Int
  edges : List Ed
  ends : List Int
structure LSt where
  kind : Int
  alts : List Int
  edges : List (Int × Int)
structure NNet where
  states : List NSt
  starts : List Int
  stops : List Int
  preds : List Int
  decs : List Int
def risingL (most : Int) : Int → List Int → Bool
  | _, [] => true
  | least, n :: r => decide (least ≤ n) && decide (n < most) && risingL most (n + 1) r
def kindL (s : LSt) : Bool :=
  if s.kind = 0 then s.alts.length == 0 else if s.kind = 1 then s.alts.length == 1 && s.edges.length == 0
  else if s.kind = 3 then decide (1 < s.alts.length) && s.edges.length == 0 else s.kind == 2 && s.alts.length == 0 && s.edges.length == 0
def fineL (s : LSt) (states alts tokens : Int) : Bool :=
  s.edges.all (fun e => decide (0 ≤ e.2) && decide (e.2 < states)) && risingL alts 0 s.alts && risingL tokens (-1) (s.edges.map (·.1)) && kindL s
def mayAuto (a : List LSt) (alts tokens : Int) : Bool := decide (1 ≤ a.length) && decide (a.length ≤ 4096) && a.all fun s => fineL s a.length alts tokens
def stateB (n : NNet) (i : Int) : Bool := decide (0 ≤ i) && decide (i < n.states.length)
def edgeB (n : NNet) (e : Ed) : Bool :=
  decide (0 ≤ e.kind) && decide (e.kind ≤ 3) && decide (0 ≤ e.what) && (e.kind == 1 || decide (e.what < (if e.kind = 2 then (n.starts.length : Int) else if e.kind = 3 then (n.preds.length : Int) else 1))) && stateB n e.to
def stMay (n : NNet) (s : NSt) : Bool :=
  s.edges.all (edgeB n) && (s.ends.length == 0 || (s.ends.length == s.edges.length && decide (2 ≤ s.ends.length) && s.edges.all (fun e => e.kind == 0) && s.ends.all (stateB n)))
def decsOf (l : List NSt) : List Int := (l.zipIdx.filter fun p => p.1.ends.length != 0).map fun p => (p.2 : Int)
def mayNet (n : NNet) : Bool :=
  n.starts.length == n.stops.length && n.starts.all (stateB n) && n.stops.all (stateB n) && n.preds.all (fun i => decide (0 ≤ i) && decide (i < (n.states.length : Int) - 1)) &&
  n.states.all (fun s => stMay n s && decide (0 ≤ s.rule) && decide (s.rule < n.starts.length)) && decsOf n.states == n.decs
end Drv
end Go.Proofs.YtnpcjbdolmmaeaaGreatDoor
