/-
  What the functions of the packages modes, qrversion and split compute (chapter 23), in plain Lean. No condition.
-/
import Derived.Test.YtifgpjhodajccaaBase
namespace Go.Proofs.Ytifgpjhodajccaa

/-- A plan of modes: bits, segments, the size and the mode of the first segment. -/
structure Pl where
  bits : Int
  segs : Int
  size : Int
  mode : Int

def Pl.zero : Pl := ⟨0, 0, 0, 0⟩

/-- The packing of a mode. -/
structure Pk where
  unit : Nat
  base : Int
  full : Int
  p0 : Int
  p1 : Int
  p2 : Int

def packF (m : Nat) : Pk := if m = 1 then ⟨3, 10, 10, 0, 4, 7⟩ else if m = 2 then ⟨2, 45, 11, 0, 6, 0⟩ else ⟨1, 256, 8, 0, 0, 0⟩
def partF (p : Pk) (r : Nat) : Int := if r = 0 then p.p0 else if r = 1 then p.p1 else p.p2
def sizeF (p : Pk) (n : Nat) : Int := p.full * ((n / p.unit : Nat) : Int) + partF p (n % p.unit)
def countF (m cl : Nat) : Nat := if m = 1 then 10 + 2 * cl else if m = 2 then 9 + 2 * cl else if cl = 0 then 8 else 16
def headF (m cl : Nat) : Int := 4 + (countF m cl : Int)
def limF (m cl : Nat) : Nat := 2 ^ countF m cl - 1

/-- The characters of the alphanumeric mode. -/
def alnumB (c : Int) : Bool := decide (48 ≤ c ∧ c ≤ 58) || decide (65 ≤ c ∧ c ≤ 90) || decide (c = 32) || decide (c = 36) || decide (c = 37) || decide (c = 42) || decide (c = 43) || decide (45 ≤ c ∧ c ≤ 47)
def fitsM (m : Nat) (c : Int) : Bool := if m = 1 then decide (48 ≤ c ∧ c ≤ 57) else if m = 2 then alnumB c else true

/-- Is a segment that ends at a worse than one that ends at b? -/
def worseF (pk : Pk) (P : Nat → Pl) (a b : Nat) : Bool :=
  decide (pk.full * ((b / pk.unit : Nat) : Int) + (P b).bits < pk.full * ((a / pk.unit : Nat) : Int) + (P a).bits) ||
  (decide (pk.full * ((a / pk.unit : Nat) : Int) + (P a).bits = pk.full * ((b / pk.unit : Nat) : Int) + (P b).bits) && decide ((P b).segs < (P a).segs))

/-- A queue's back, as far as it is worse, is taken off. -/
def popB (f : Nat → Bool) (q : List Nat) : List Nat := (q.reverse.dropWhile f).reverse

def betterF (p q : Pl) : Bool :=
  if p.bits ≠ q.bits then decide (p.bits < q.bits) else if p.segs ≠ q.segs then decide (p.segs < q.segs) else if p.size ≠ q.size then decide (q.size < p.size) else decide (p.mode < q.mode)

/-- A window's three queues. -/
structure Wq where
  q0 : List Nat
  q1 : List Nat
  q2 : List Nat

def Wq.nil : Wq := ⟨[], [], []⟩
def Wq.get (W : Wq) (k : Nat) : List Nat := if k = 0 then W.q0 else if k = 1 then W.q1 else W.q2
def Wq.set (W : Wq) (k : Nat) (q : List Nat) : Wq := if k = 0 then ⟨q, W.q1, W.q2⟩ else if k = 1 then ⟨W.q0, q, W.q2⟩ else ⟨W.q0, W.q1, q⟩

def pushF (m : Nat) (P : Nat → Pl) (e : Nat) (W : Wq) : Wq := W.set (e % (packF m).unit) (popB (fun x => worseF (packF m) P x e) (W.get (e % (packF m).unit)) ++ [e])

/-- The queue's front, as far as it is too far away, is taken off. -/
def trimQ (lim at_ : Nat) (q : List Nat) : List Nat := q.dropWhile (fun x => decide (lim < x - at_))

def candF (m cl : Nat) (P : Nat → Pl) (at_ : Nat) (q : List Nat) (best : Pl) : Pl :=
  match q with
  | [] => best
  | e :: _ => if betterF ⟨headF m cl + sizeF (packF m) (e - at_) + (P e).bits, (P e).segs + 1, ((e - at_ : Nat) : Int), m⟩ best then ⟨headF m cl + sizeF (packF m) (e - at_) + (P e).bits, (P e).segs + 1, ((e - at_ : Nat) : Int), m⟩ else best

def chooseK (m cl : Nat) (P : Nat → Pl) (at_ k : Nat) (s : Wq × Pl) : Wq × Pl :=
  (s.1.set k (trimQ (limF m cl) at_ (s.1.get k)), candF m cl P at_ (trimQ (limF m cl) at_ (s.1.get k)) s.2)

def chooseF (m cl : Nat) (P : Nat → Pl) (at_ : Nat) (s : Wq × Pl) : Wq × Pl := chooseK m cl P at_ 2 (chooseK m cl P at_ 1 (chooseK m cl P at_ 0 s))

/-- One mode at one place. -/
def modeF (m cl : Nat) (c : Int) (P : Nat → Pl) (at_ : Nat) (s : Wq × Pl) : Wq × Pl :=
  if fitsM m c = true then chooseF m cl P at_ (pushF m P (at_ + 1) s.1, s.2) else (Wq.nil, s.2)

def maxI : Int := 9223372036854775807

/-- The state of Best: the plans from a place on, and the three windows. -/
structure Bst where
  ps : List Pl
  w1 : Wq
  w2 : Wq
  w4 : Wq

def planAt (ps : List Pl) (at_ : Nat) (e : Nat) : Pl := ps.getD (e - at_) Pl.zero

def stepB (cl : Nat) (c : Int) (at_ : Nat) (s : Bst) : Bst :=
  let P := planAt s.ps (at_ + 1)
  let a := modeF 1 cl c P at_ (s.w1, ⟨maxI, 0, 0, 0⟩)
  let b := modeF 2 cl c P at_ (s.w2, a.2)
  let d := modeF 4 cl c P at_ (s.w4, b.2)
  ⟨d.2 :: s.ps, a.1, b.1, d.1⟩

/-- The state behind the first d places from the end. -/
def bstF (cl : Nat) (bs : List Int) : Nat → Bst
  | 0 => ⟨[Pl.zero], Wq.nil, Wq.nil, Wq.nil⟩
  | d + 1 => stepB cl (bs.getD (bs.length - (d + 1)) 0) (bs.length - (d + 1)) (bstF cl bs d)

/-- The bits of Best. -/
def bitsF (cl : Nat) (bs : List Int) : Int := (planAt (bstF cl bs bs.length).ps 0 0).bits

/-- The numbers of data codewords, versions 1 to 40, level L, M, Q, H. -/
def capL : List (Nat × Nat × Nat × Nat) := [(19, 16, 13, 9)]

end Go.Proofs.Ytifgpjhodajccaa
