/-
Definitions of a small big-step evaluator: positions, tries, abstract values, an abstract heap, instructions. No theorem about a program stands here.
-/
import Derived.Orders
import Derived.Laws.World
set_option linter.unusedVariables false
set_option linter.unusedSimpArgs false
namespace Go.Ev

/-- A positive number, its lowest bit first. -/
inductive Pos where
  | h
  | o (p : Pos)
  | i (p : Pos)
  deriving Inhabited, Repr

namespace Pos
def succ : Pos → Pos
  | .h => .o .h
  | .o p => .i p
  | .i p => .o p.succ
def toNat : Pos → Nat
  | .h => 1
  | .o p => 2 * p.toNat
  | .i p => 2 * p.toNat + 1
def ofNatF : Nat → Nat → Pos
  | 0, _ => .h
  | f + 1, n => if n ≤ 1 then .h else if n % 2 = 0 then .o (ofNatF f (n / 2)) else .i (ofNatF f (n / 2))
def ofNat (n : Nat) : Pos := ofNatF 40 n
def same : Pos → Pos → Bool
  | .h, .h => true
  | .o p, .o q => same p q
  | .i p, .i q => same p q
  | _, _ => false
end Pos

inductive Tr (α : Type) where
  | lf
  | nd (v : Option α) (l r : Tr α)
  deriving Inhabited, Repr

namespace Tr
variable {α : Type}
noncomputable section
def getH (t : Tr α) : Option α := Tr.rec none (fun v _ _ _ _ => v) t
def getO (ih : Tr α → Option α) (t : Tr α) : Option α := Tr.rec none (fun _ l _ _ _ => ih l) t
def getI (ih : Tr α → Option α) (t : Tr α) : Option α := Tr.rec none (fun _ _ r _ _ => ih r) t
def getP (p : Pos) : Tr α → Option α := Pos.rec (motive := fun _ => Tr α → Option α) getH (fun _ ih => getO ih) (fun _ ih => getI ih) p
/-- (by recursors: the kernel reduces that fast) -/
def get (t : Tr α) (p : Pos) : Option α := getP p t
def putLf (x : Option α) (p : Pos) : Tr α := Pos.rec (.nd x .lf .lf) (fun _ ih => .nd none ih .lf) (fun _ ih => .nd none .lf ih) p
def putH (x : Option α) (t : Tr α) : Tr α := Tr.rec (.nd x .lf .lf) (fun _ l r _ _ => .nd x l r) t
def putO (p : Pos) (ih : Option α → Tr α → Tr α) (x : Option α) (t : Tr α) : Tr α := Tr.rec (putLf x (.o p)) (fun v l r _ _ => .nd v (ih x l) r) t
def putI (p : Pos) (ih : Option α → Tr α → Tr α) (x : Option α) (t : Tr α) : Tr α := Tr.rec (putLf x (.i p)) (fun v l r _ _ => .nd v l (ih x r)) t
def putP (p : Pos) : Option α → Tr α → Tr α := Pos.rec (motive := fun _ => Option α → Tr α → Tr α) putH putO putI p
def put (t : Tr α) (p : Pos) (x : Option α) : Tr α := putP p x t
end
theorem get_lf (p : Pos) : (Tr.lf : Tr α).get p = none := by cases p <;> rfl
theorem get_nd_h (v : Option α) (l r : Tr α) : (Tr.nd v l r).get .h = v := rfl
theorem get_nd_o (v : Option α) (l r : Tr α) (p : Pos) : (Tr.nd v l r).get (.o p) = l.get p := rfl
theorem get_nd_i (v : Option α) (l r : Tr α) (p : Pos) : (Tr.nd v l r).get (.i p) = r.get p := rfl
theorem put_lf (p : Pos) (x : Option α) : (Tr.lf : Tr α).put p x = putLf x p := by cases p <;> rfl
theorem put_nd_h (v : Option α) (l r : Tr α) (x : Option α) : (Tr.nd v l r).put .h x = .nd x l r := rfl
theorem put_nd_o (v : Option α) (l r : Tr α) (p : Pos) (x : Option α) : (Tr.nd v l r).put (.o p) x = .nd v (l.put p x) r := rfl
theorem put_nd_i (v : Option α) (l r : Tr α) (p : Pos) (x : Option α) : (Tr.nd v l r).put (.i p) x = .nd v l (r.put p x) := rfl
end Tr

/-- Abstract values. A pointer names an abstract block. -/
inductive AV where
  | bool (b : Bool)
  | int (k : IntKind) (n : Int)
  | str (s : List UInt8)
  | ptr (i : Pos) (off : Nat)
  | gp (g : Nat) (off : Nat)
  | nilp
  | slc (i : Pos) (off len : Nat) (cap : Option Nat) (sz : Nat)
  | nils
  | map (i : Pos)
  | nilm
  | fn (f : Pos) (first captured : List AV)
  | nilf
  | ifc (t : Nat) (v : AV)
  | nili
  | agg (cs : List AV)
  | tup (vs : List AV)
  | any
  deriving Inhabited, Repr

def AV.undef : AV := .tup []
def AV.cells : AV → List AV
  | .agg cs => cs
  | v => [v]
def AV.oneCell : AV → Bool
  | .agg _ | .tup _ | .any => false
  | _ => true
/-- is anything known of it? -/
def AV.known : AV → Bool
  | .any => false
  | _ => true

inductive AObj where
  | cells (cs : List AV)
  | mp (es : List (AV × AV × Nat)) (clock : Nat)
  | gh (k : Nat) (m : List (List Int)) (c : Nat)
  /-- rows of a layout that nobody writes -/
  | ro (m : List (List Int)) (c : Nat)
  deriving Inhabited, Repr

structure Hp where
  t : Tr AObj
  next : Pos
  deriving Inhabited, Repr

abbrev Tm := Tr AV

/-- How two values of a type are compared, by cells. -/
inductive EQ where
  | li
  | lb
  | ls
  | st (fs : List (Nat × Nat × EQ))
  deriving Inhabited, Repr

inductive XO where
  | t (p : Pos)
  | c (v : AV)
  deriving Inhabited, Repr

inductive BO where
  | add | sub | mul | quo | rem | and | or | xor | andNot | shl | shr | eql | neq | lss | leq | gtr | geq
  deriving Inhabited, Repr, DecidableEq

inductive XP where
  | mv (x : XO)
  | pick (c a b : XO)
  | ne (x : XO)
  | al (cs : List AV)
  | bx (x : XO)
  | bd (zero : List AV) (ps : List (Nat × Nat × XO))
  | bs (sz len : Nat) (zero : List AV) (ps : List (Nat × Nat × XO))
  | ld (x : XO)
  | ldn (x : XO) (n : Nat)
  | st (a x : XO) (n : Nat)
  | bin (o : BO) (x y : XO)
  | eqv (neg : Bool) (d : EQ) (x y : XO)
  | eqp (kd : Nat) (neg : Bool) (x y : XO)
  | isn (neg : Bool) (x : XO)
  | not (x : XO)
  | neg (x : XO)
  | cv (k : IntKind) (x : XO)
  | mi (t : Nat) (x : XO)
  | mf (f : Pos) (first captured : List XO)
  | mm (r : Option XO)
  | ms (sz bytes : Nat) (zero : List AV) (l c : XO)
  | sl (sz : Nat) (x : XO) (lo hi mx : Option XO)
  | fa (x : XO) (off : Nat)
  | fd (agg : Bool) (x : XO) (off n : Nat)
  | ia (sz : Nat) (x i : XO)
  | iaa (n sz : Nat) (x i : XO)
  | ix (agg : Bool) (n sz : Nat) (x i : XO)
  | ixs (x i : XO)
  | lk (d : EQ) (zero : AV) (x k : XO) (ok : Bool)
  | mu (d : EQ) (m k v : XO)
  | me (d : EQ) (zero : AV) (m k : XO)
  | es (m s v : XO)
  | dl (d : EQ) (m k : XO)
  | ta (t : Nat) (zero : AV) (x : XO) (ok : Bool)
  | ex (x : XO) (n : Nat)
  | lens (x : XO)
  | lent (x : XO)
  | lenm (x : XO)
  | cap (x : XO)
  | app (sz bytes : Nat) (zero : List AV) (s x : XO)
  | mn (x y : XO)
  | mx (x y : XO)
  | cs (f : Pos) (args : List XO)
  | cd (f : XO) (args : List XO)
  | ci (r : XO) (m : Nat) (args : List XO)
  deriving Inhabited, Repr

structure XI where
  dst : Option Pos
  guard : Option (Pos × Bool)
  op : XP
  deriving Inhabited, Repr

/-- One row of a region that draws its order: which operation comes next in the canonical order; is it heavy; an allocation that has its own number kept ahead; a window [lo, hi] of heavy operations that may be done when it comes up. -/
inductive Role where
  | heavy
  | pure
  | read (lo hi : Nat)
  | alloc (k : Nat)
  deriving Inhabited, Repr

inductive XC where
  | skip
  | rg (l : List XI)
  | rgd (allocs : Nat) (l : List (XI × Role))
  | seq (a b : XC)
  | cond (c : XO) (a b : XC)
  | block (id : Nat) (b : XC)
  | loop (b : XC)
  | exit (id : Nat)
  | ret
  deriving Inhabited, Repr

inductive XR where
  | tmp (p : Pos)
  | cell (p : Pos) (agg : Bool) (n : Nat)
  deriving Inhabited, Repr

structure XF where
  body : XC
  results : List XR
  deriving Inhabited, Repr

structure Env where
  code : Tr XF
  meths : List (Nat × Nat × Pos)
  globals : List (Nat × List AV)
  sums : Tr (List AV → Hp → Option (AV × Hp))
  deriving Inhabited

end Go.Ev
