/-
The evaluator: what an instruction gives on abstract values and an abstract heap; code, calls; regions that draw their order, in one canonical order, with the looks that make it serve for all.
-/
import Derived.Test.YtipkbcnibhnjdabGreatDoorEvA
set_option linter.unusedVariables false
set_option linter.unusedSimpArgs false
namespace Go.Ev
noncomputable section

-- whole numbers, in a form that reduces fast
def modI (m : Nat) : Int → Nat
  | .ofNat a => a % m
  | .negSucc a => m - 1 - a % m
def wrapU (m : Nat) (n : Int) : Int := .ofNat (modI m n)
def wrapS (m : Nat) (n : Int) : Int :=
  match Nat.ble m (2 * modI m n) with
  | true => .negSucc (m - modI m n - 1)
  | false => .ofNat (modI m n)
def wrapF : IntKind → Int → Int
  | .i8, n => wrapS 256 n
  | .i16, n => wrapS 65536 n
  | .i32, n => wrapS 4294967296 n
  | .i64, n => wrapS 18446744073709551616 n
  | .u8, n => wrapU 256 n
  | .u16, n => wrapU 65536 n
  | .u32, n => wrapU 4294967296 n
  | .u64, n => wrapU 18446744073709551616 n
def modOf : IntKind → Nat
  | .i8 | .u8 => 256
  | .i16 | .u16 => 65536
  | .i32 | .u32 => 4294967296
  | .i64 | .u64 => 18446744073709551616
def bitsOf : IntKind → Nat
  | .i8 | .u8 => 8
  | .i16 | .u16 => 16
  | .i32 | .u32 => 32
  | .i64 | .u64 => 64
def kidx : IntKind → Nat
  | .i8 => 0 | .i16 => 1 | .i32 => 2 | .i64 => 3 | .u8 => 4 | .u16 => 5 | .u32 => 6 | .u64 => 7
def eqI : Int → Int → Bool
  | .ofNat a, .ofNat b => Nat.beq a b
  | .negSucc a, .negSucc b => Nat.beq a b
  | _, _ => false
def ltI : Int → Int → Bool
  | .ofNat a, .ofNat b => Nat.ble (a + 1) b
  | .negSucc _, .ofNat _ => true
  | .ofNat _, .negSucc _ => false
  | .negSucc a, .negSucc b => Nat.ble (b + 1) a
def leI (a b : Int) : Bool := !(ltI b a)
def mulP (x : Int) (n : Nat) : Int :=
  match x with
  | .ofNat a => .ofNat (a * 2 ^ n)
  | .negSucc a => .negSucc ((a + 1) * 2 ^ n - 1)
def divP (x : Int) (n : Nat) : Int :=
  match x with
  | .ofNat a => .ofNat (a / 2 ^ n)
  | .negSucc a => .negSucc (a / 2 ^ n)
def natOf : Int → Option Nat
  | .ofNat a => some a
  | .negSucc _ => none

def binI (o : BO) (k : IntKind) (x y : Int) : Option AV :=
  match o with
  | .add => some (.int k (wrapF k (x + y)))
  | .sub => some (.int k (wrapF k (x - y)))
  | .mul => some (.int k (wrapF k (x * y)))
  | .quo => match eqI y 0 with
    | true => none
    | false => some (.int k (wrapF k (x.tdiv y)))
  | .rem => match eqI y 0 with
    | true => none
    | false => some (.int k (x.tmod y))
  | .and => some (.int k (wrapF k (.ofNat (Nat.land (modI (modOf k) x) (modI (modOf k) y)))))
  | .or => some (.int k (wrapF k (.ofNat (Nat.lor (modI (modOf k) x) (modI (modOf k) y)))))
  | .xor => some (.int k (wrapF k (.ofNat (Nat.xor (modI (modOf k) x) (modI (modOf k) y)))))
  | .andNot => some (.int k (wrapF k (.ofNat (Nat.land (modI (modOf k) x) (modOf k - 1 - modI (modOf k) y)))))
  | .shl | .shr => none
  | .eql => some (.bool (eqI x y))
  | .neq => some (.bool (!(eqI x y)))
  | .lss => some (.bool (ltI x y))
  | .leq => some (.bool (leI x y))
  | .gtr => some (.bool (ltI y x))
  | .geq => some (.bool (leI y x))
def shI (o : BO) (k : IntKind) (x y : Int) : Option AV :=
  match natOf y with
  | none => none
  | some n =>
    match o with
    | .shl => some (.int k (wrapF k (mulP x (min n (bitsOf k)))))
    | .shr => some (.int k (divP x (min n (bitsOf k))))
    | _ => none
def bytesLt : List UInt8 → List UInt8 → Bool
  | _, [] => false
  | [], _ :: _ => true
  | a :: x, b :: y => a < b || (a == b && bytesLt x y)
def strEq : List UInt8 → List UInt8 → Bool
  | [], [] => true
  | a :: x, b :: y => Nat.beq a.toNat b.toNat && strEq x y
  | _, _ => false
def binS (o : BO) (x y : List UInt8) : Option AV :=
  match o with
  | .add => match Nat.ble (x.length + y.length) 4611686018427387904 with
    | true => some (.str (x ++ y))
    | false => none
  | .eql => some (.bool (strEq x y))
  | .neq => some (.bool (!(strEq x y)))
  | _ => none
def isShift : BO → Bool
  | .shl | .shr => true
  | _ => false
def binV (o : BO) (x y : AV) : Option AV :=
  match x, y with
  | .int k a, .int k' b => match isShift o with
    | true => shI o k a b
    | false => match Nat.beq (kidx k) (kidx k') with
      | true => binI o k a b
      | false => none
  | .str a, .str b => binS o a b
  | _, _ => none

def eqLi : AV → AV → Option Bool
  | .int k a, .int k' b => match Nat.beq (kidx k) (kidx k') with
    | true => some (eqI a b)
    | false => none
  | _, _ => none
def eqLb : AV → AV → Option Bool
  | .bool a, .bool b => some (a == b)
  | _, _ => none
def eqLs : AV → AV → Option Bool
  | .str a, .str b => some (strEq a b)
  | _, _ => none

/-- exactly n cells from off on -/
def cut : List AV → Nat → Nat → Option (List AV)
  | _, 0, 0 => some []
  | c :: cs, 0, n + 1 => match cut cs 0 n with
    | some l => some (c :: l)
    | none => none
  | _ :: cs, off + 1, n => cut cs off n
  | [], _, _ => none
/-- cells from off on are these -/
def lay : List AV → Nat → List AV → Option (List AV)
  | cs, 0, [] => some cs
  | _ :: cs, 0, v :: vs => match lay cs 0 vs with
    | some l => some (v :: l)
    | none => none
  | c :: cs, off + 1, vs => match lay cs off vs with
    | some l => some (c :: l)
    | none => none
  | [], _, _ => none
def at? : List AV → Nat → Option AV
  | [], _ => none
  | c :: _, 0 => some c
  | _ :: cs, n + 1 => at? cs n

mutual
def eqC : EQ → List AV → List AV → Option Bool
  | .li, [a], [b] => eqLi a b
  | .lb, [a], [b] => eqLb a b
  | .ls, [a], [b] => eqLs a b
  | .st fs, xs, ys => eqFs fs xs ys
  | _, _, _ => none
def eqFs : List (Nat × Nat × EQ) → List AV → List AV → Option Bool
  | [], _, _ => some true
  | (off, n, e) :: fs, xs, ys =>
    match cut xs off n, cut ys off n with
    | some a, some b => match eqC e a b with
      | some true => eqFs fs xs ys
      | some false => some false
      | none => none
    | _, _ => none
end

def eqP (H : Hp) : Nat → AV → AV → Option Bool
  | 0, .ptr i a, .ptr j b => match i.same j with
    | true => some (Nat.beq a b)
    | false => match H.t.get i, H.t.get j with
      | some (.cells _), some (.cells _) => some false
      | _, _ => none
  | 0, .nilp, .nilp => some true
  | 0, .nilp, .ptr _ _ => some false
  | 0, .ptr _ _, .nilp => some false
  | 1, .nils, .nils => some true
  | 1, .nils, .slc .. => some false
  | 1, .slc .., .nils => some false
  | 2, .nilm, .nilm => some true
  | 2, .nilm, .map _ => some false
  | 2, .map _, .nilm => some false
  | 3, .nilf, .nilf => some true
  | 3, .nilf, .fn .. => some false
  | 3, .fn .., .nilf => some false
  | _, _, _ => none

def opnd (T : Tm) : XO → AV
  | .t p => match T.get p with
    | some v => v
    | none => .any
  | .c v => v
def opnds (T : Tm) : List XO → List AV
  | [] => []
  | x :: l => opnd T x :: opnds T l

/-- A row of a memory's words: which kind, where, which field, what stands there. -/
def rowI (r : List Int) (j : Nat) : Int := r.getD j 0
def isAt (r : List Int) (k a f : Int) : Bool := eqI (rowI r 0) k && (eqI (rowI r 1) a && eqI (rowI r 2) f)
/-- what stands at an address: the first row's that has it; else 0 -/
def memGet : List (List Int) → Int → Int → Int → Int
  | [], _, _, _ => 0
  | r :: m, k, a, f => match isAt r k a f with
    | true => rowI r 3
    | false => memGet m k a f
def memKey (r : List Int) : AV := .agg [.int .u8 (rowI r 0), .int .i64 (rowI r 1), .int .i64 (rowI r 2)]
def memRow (x : List Int × Nat) : AV × AV × Nat := (memKey x.1, .int .u64 (rowI x.1 3), x.2)
/-- no address twice -/
def memOnce : List (List Int) → Prop
  | [] => True
  | r :: m => (∀ s ∈ m, isAt s (rowI r 0) (rowI r 1) (rowI r 2) = false) ∧ memOnce m
/-- cells of a row, by kinds; a bool is a kind's lack -/
def colA : Option IntKind → Int → AV
  | some k, n => .int k n
  | none, n => .bool (!(eqI n 0))
def rowFrom : List (Option IntKind) → List Int → Nat → List AV
  | [], _, _ => []
  | c :: cs, r, j => colA c (rowI r j) :: rowFrom cs r (j + 1)
def rowCells (L : List (Option IntKind)) (r : List Int) : List AV := rowFrom L r 0
/-- layouts of rows -/
def layOf : Nat → List (Option IntKind)
  | 0 => [some .u8, some .i64, some .i64, some .u64]
  | 1 => [some .i64, some .u32, none, some .u64, some .u64, some .u64]
  | 2 => [some .i64, some .u32, none]
  | 3 => [some .u64]
  | 4 => [some .i64]
  | _ => []
def gfind (g : Nat) : List (Nat × List AV) → Option (List AV)
  | [] => none
  | (g', cs) :: l => match Nat.beq g g' with
    | true => some cs
    | false => gfind g l
def cellsAt (H : Hp) (G : List (Nat × List AV)) : AV → Option (List AV × Nat)
  | .ptr i off => match H.t.get i with
    | some (.cells cs) => some (cs, off)
    | some (.gh k m c) => match Nat.beq k 1 with
      | true => some (m.flatMap (rowCells (layOf c)), off)
      | false => none
    | some (.ro m c) => some (m.flatMap (rowCells (layOf c)), off)
    | _ => none
  | .gp g off => match gfind g G with
    | some cs => some (cs, off)
    | none => none
  | _ => none
def fillA : List AV → List (Nat × Nat × AV) → Option (List AV)
  | cs, [] => some cs
  | cs, (off, n, v) :: rest => match Nat.beq v.cells.length n && v.known with
    | true => match lay cs off v.cells with
      | some cs' => fillA cs' rest
      | none => none
    | false => none
def partsA (T : Tm) : List (Nat × Nat × XO) → List (Nat × Nat × AV)
  | [] => []
  | (a, n, x) :: l => (a, n, opnd T x) :: partsA T l
def rep : Nat → List AV → List AV
  | 0, _ => []
  | n + 1, z => z ++ rep n z
def allOne : List AV → Bool
  | [] => true
  | v :: l => v.oneCell && allOne l

/-- a bound of a slice expression -/
def bnd : Option AV → Nat → Option Nat
  | none, d => some d
  | some (.int _ n), _ => natOf n
  | some _, _ => none
def shiftA (cap : Option Nat) (l off sz : Nat) : Nat :=
  match cap with
  | some c => match Nat.beq c l with
    | true => off
    | false => off + l * sz
  | none => off + l * sz
def sliceA (sz : Nat) (i : Pos) (off len : Nat) (cap : Option Nat) (lo hi mx : Option AV) : Option AV :=
  match bnd lo 0, bnd hi len with
  | some l, some h =>
    match Nat.ble l h && Nat.ble h len with
    | false => none
    | true =>
      match mx with
      | none => some (.slc i (shiftA cap l off sz) (h - l) (cap.map (· - l)) sz)
      | some v => match hi, bnd (some v) 0 with
        | some _, some m => match Nat.ble h m && (match cap with | some c => Nat.ble m c | none => Nat.ble m len) with
          | true => some (.slc i (shiftA (some m) l off sz) (h - l) (some (m - l)) sz)
          | false => none
        | _, _ => none
  | _, _ => none

def takeA (agg : Bool) (cs : List AV) (off n : Nat) : Option AV :=
  match agg with
  | true => match cut cs off n with
    | some l => some (.agg l)
    | none => none
  | false => at? cs off

/-- two values of a type that can be compared -/
def eqV : EQ → AV → AV → Option Bool
  | .li, a, b => eqLi a b
  | .lb, a, b => eqLb a b
  | .ls, a, b => eqLs a b
  | .st fs, .agg xs, .agg ys => eqFs fs xs ys
  | _, _, _ => none
/-- may a key be? -/
def keyOk (d : EQ) (k : AV) : Bool :=
  match eqV d k k with
  | some true => true
  | _ => false
/-- search in a map's entries, from number i on -/
def findA (d : EQ) (k : AV) : List (AV × AV × Nat) → Nat → Option (Option (Nat × AV × AV × Nat))
  | [], _ => some none
  | (k', v, b) :: es, i => match eqV d k k' with
    | some true => some (some (i, k', v, b))
    | some false => findA d k es (i + 1)
    | none => none
def flat1 : AV → AV → Bool
  | .int k a, .int k' b => Nat.beq (kidx k) (kidx k') && eqI a b
  | .bool a, .bool b => a == b
  | .str a, .str b => strEq a b
  | _, _ => false
def flats : List AV → List AV → Bool
  | [], [] => true
  | a :: l, b :: m => flat1 a b && flats l m
  | _, _ => false
/-- the same plain key, to the bit -/
def flatSame : AV → AV → Bool
  | .agg a, .agg b => flats a b
  | a, b => flat1 a b
def stampA (s : Int) : List (AV × AV × Nat) → Nat → Option (Nat × AV × Nat)
  | [], _ => none
  | (k, _, b) :: es, i => match eqI (.ofNat b) s with
    | true => some (i, k, b)
    | false => stampA s es (i + 1)

/-- What leaves the heap alone. -/
def evalV (G : List (Nat × List AV)) (T : Tm) (H : Hp) : XP → Option AV
  | .mv x => some (opnd T x)
  | .pick c a b => match opnd T c with
    | .bool true => some (opnd T a)
    | .bool false => some (opnd T b)
    | _ => none
  | .ne x => match opnd T x with
    | .ptr i a => some (.ptr i a)
    | .gp g a => some (.gp g a)
    | .fn f a b => some (.fn f a b)
    | .ifc t v => some (.ifc t v)
    | _ => none
  | .bd zero ps => match fillA zero (partsA T ps) with
    | some cs => some (.agg cs)
    | none => none
  | .ld x => match cellsAt H G (opnd T x) with
    | some (cs, off) => at? cs off
    | none => none
  | .ldn x n => match cellsAt H G (opnd T x) with
    | some (cs, off) => match cut cs off n with
      | some l => some (.agg l)
      | none => none
    | none => none
  | .bin o x y => binV o (opnd T x) (opnd T y)
  | .eqv neg d x y => match eqV d (opnd T x) (opnd T y) with
    | some b => some (.bool (xor neg b))
    | none => none
  | .eqp kd neg x y => match eqP H kd (opnd T x) (opnd T y) with
    | some b => some (.bool (xor neg b))
    | none => none
  | .isn neg x => match opnd T x with
    | .nili => some (.bool (xor neg true))
    | .ifc _ _ => some (.bool (xor neg false))
    | _ => none
  | .not x => match opnd T x with
    | .bool b => some (.bool !b)
    | _ => none
  | .neg x => match opnd T x with
    | .int k n => some (.int k (wrapF k (0 - n)))
    | _ => none
  | .cv k x => match opnd T x with
    | .int _ n => some (.int k (wrapF k n))
    | _ => none
  | .mi t x => some (.ifc t (opnd T x))
  | .mf f first captured => some (.fn f (opnds T first) (opnds T captured))
  | .sl sz x lo hi mx => match opnd T x with
    | .slc i off len cap sz' => match Nat.beq sz sz' with
      | true => sliceA sz i off len cap (lo.map (opnd T)) (hi.map (opnd T)) (mx.map (opnd T))
      | false => none
    | _ => none
  | .fa x off => match opnd T x with
    | .ptr i a => some (.ptr i (a + off))
    | .gp g a => some (.gp g (a + off))
    | _ => none
  | .fd agg x off n => match opnd T x with
    | .agg cs => takeA agg cs off n
    | _ => none
  | .ia sz x i => match opnd T x, opnd T i with
    | .slc b off len _ _, .int _ n => match natOf n with
      | some m => match Nat.ble (m + 1) len with
        | true => some (.ptr b (off + m * sz))
        | false => none
      | none => none
    | _, _ => none
  | .iaa n sz x i => match opnd T i with
    | .int _ j => match natOf j with
      | some m => match Nat.ble (m + 1) n with
        | true => match opnd T x with
          | .ptr b a => some (.ptr b (a + m * sz))
          | .gp g a => some (.gp g (a + m * sz))
          | _ => none
        | false => none
      | none => none
    | _ => none
  | .ix agg n sz x i => match opnd T x, opnd T i with
    | .agg cs, .int _ j => match natOf j with
      | some m => match Nat.ble (m + 1) n with
        | true => takeA agg cs (m * sz) sz
        | false => none
      | none => none
    | _, _ => none
  | .ixs x i => match opnd T x, opnd T i with
    | .str s, .int _ j => match natOf j with
      | some m => match s[m]? with
        | some b => some (.int .u8 (.ofNat b.toNat))
        | none => none
      | none => none
    | _, _ => none
  | .lk d zero x k ok =>
    match keyOk d (opnd T k) with
    | false => none
    | true => match opnd T x with
      | .nilm => some (match ok with | true => .tup [zero, .bool false] | false => zero)
      | .map i => match H.t.get i with
        | some (.mp es _) => match findA d (opnd T k) es 0 with
          | some none => some (match ok with | true => .tup [zero, .bool false] | false => zero)
          | some (some (_, _, v, _)) => some (match ok with | true => .tup [v, .bool true] | false => v)
          | none => none
        | _ => none
      | _ => none
  | .ta t zero x ok => match opnd T x with
    | .nili => match ok with
      | true => some (.tup [zero, .bool false])
      | false => none
    | .ifc t' v => match Nat.beq t t' with
      | true => some (match ok with | true => .tup [v, .bool true] | false => v)
      | false => match ok with
        | true => some (.tup [zero, .bool false])
        | false => none
    | _ => none
  | .ex x n => match opnd T x with
    | .tup vs => at? vs n
    | _ => none
  | .lens x => match opnd T x with
    | .nils => some (.int .i64 0)
    | .slc _ _ len _ _ => some (.int .i64 (.ofNat len))
    | _ => none
  | .lent x => match opnd T x with
    | .str s => some (.int .i64 (.ofNat s.length))
    | _ => none
  | .lenm x => match opnd T x with
    | .nilm => some (.int .i64 0)
    | .map i => match H.t.get i with
      | some (.mp es _) => some (.int .i64 (.ofNat es.length))
      | _ => none
    | _ => none
  | .cap x => match opnd T x with
    | .nils => some (.int .i64 0)
    | .slc _ _ _ (some c) _ => some (.int .i64 (.ofNat c))
    | _ => none
  | .mn x y => match opnd T x, opnd T y with
    | .int k a, .int _ b => some (.int k (match ltI b a with | true => b | false => a))
    | _, _ => none
  | .mx x y => match opnd T x, opnd T y with
    | .int k a, .int _ b => some (.int k (match ltI a b with | true => b | false => a))
    | _, _ => none
  | _ => none

inductive Bld where
  | ptr
  | slc (len cap sz : Nat)
  | map
def Bld.of (i : Pos) : Bld → AV
  | .ptr => .ptr i 0
  | .slc len cap sz => .slc i 0 len (some cap) sz
  | .map => .map i

/-- What makes one new block and does nothing else. -/
def evalA (T : Tm) : XP → Option (AObj × Bld)
  | .al cs => some (.cells cs, .ptr)
  | .bx x => match (opnd T x).known with
    | true => some (.cells (opnd T x).cells, .ptr)
    | false => none
  | .bs sz len zero ps => match fillA (rep len zero) (partsA T ps) with
    | some cs => some (.cells cs, .slc len len sz)
    | none => none
  | .mm r => match r with
    | none => some (.mp [] 0, .map)
    | some x => match opnd T x with
      | .int _ _ => some (.mp [] 0, .map)
      | _ => none
  | .ms sz bytes zero l c => match opnd T l, opnd T c with
    | .int .i64 l, .int .i64 c => match natOf l, natOf c with
      | some l, some c => match Nat.ble l c && Nat.ble (c * bytes) 140737488355328 && Nat.ble c 4611686018427387904 with
        | true => some (.cells (rep c zero), .slc l c sz)
        | false => none
      | _, _ => none
    | _, _ => none
  | _ => none

def Hp.add (H : Hp) (o : AObj) : Hp := ⟨H.t.put H.next (some o), H.next.succ⟩
def Hp.set (H : Hp) (i : Pos) (o : AObj) : Hp := ⟨H.t.put i (some o), H.next⟩
def Hp.drop (H : Hp) (i : Pos) : Hp := ⟨H.t.put i none, H.next⟩

def sliceCells (H : Hp) (sz : Nat) : AV → Option (List AV × Nat)
  | .nils => some ([], 0)
  | .slc i off len _ _ => match len with
    | 0 => some ([], 0)
    | len + 1 => match H.t.get i with
      | some (.cells cs) => match cut cs off ((len + 1) * sz) with
        | some l => some (l, len + 1)
        | none => none
      | _ => none
  | _ => none

def appendA (H : Hp) (sz bytes : Nat) (s x : AV) : Option (AV × Hp) :=
  match sliceCells H sz x with
  | none => none
  | some (_, 0) => match s with
    | .nils => some (s, H)
    | .slc .. => some (s, H)
    | _ => none
  | some (xs, n + 1) =>
    match s with
    | .nils => match Nat.ble ((n + 1) * bytes) 140737488355328 && Nat.ble (n + 1) 4611686018427387904 with
      | true => some (.slc H.next 0 (n + 1) none sz, H.add (.cells xs))
      | false => none
    | .slc i off len cap sz' =>
      match Nat.beq sz sz' && Nat.ble ((len + (n + 1)) * bytes) 140737488355328 && Nat.ble (len + (n + 1)) 4611686018427387904 && allOne xs, sliceCells H sz s, H.t.get i with
      | true, some (old, _), some (.cells cs) =>
        match cap with
        | some c => match Nat.ble (len + (n + 1)) c with
          | true => match len with
            | 0 => some (.slc H.next 0 (n + 1) none sz, (H.drop i).add (.cells xs))
            | len + 1 => match lay cs (off + (len + 1) * sz) xs with
              | some cs' => some (.slc i off (len + 1 + (n + 1)) (some c) sz, H.set i (.cells cs'))
              | none => none
          | false => some (.slc H.next 0 (len + (n + 1)) none sz, H.add (.cells (old ++ xs)))
        | none => some (.slc H.next 0 (len + (n + 1)) none sz, (H.drop i).add (.cells (old ++ xs)))
      | _, _, _ => none
    | _ => none

def storeA (H : Hp) (a : AV) (vs : List AV) : Option Hp :=
  match a with
  | .ptr i off => match H.t.get i with
    | some (.cells cs) => match allOne vs with
      | true => match lay cs off vs with
        | some cs' => some (H.set i (.cells cs'))
        | none => none
      | false => none
    | _ => none
  | _ => none

/-- What writes. -/
def evalW (T : Tm) (H : Hp) : XP → Option (AV × Hp)
  | .st a x n => match Nat.beq (opnd T x).cells.length n with
    | true => match storeA H (opnd T a) (opnd T x).cells with
      | some H' => some (.tup [], H')
      | none => none
    | false => none
  | .mu d m k v => match opnd T m, keyOk d (opnd T k) with
    | .map i, true => match H.t.get i with
      | some (.mp es clock) => match findA d (opnd T k) es 0 with
        | some none => some (.tup [], H.set i (.mp (es ++ [(opnd T k, opnd T v, clock)]) (clock + 1)))
        | some (some (j, k', _, b)) => match flatSame k' (opnd T k) with
          | true => some (.tup [], H.set i (.mp (es.set j (opnd T k, opnd T v, b)) clock))
          | false => none
        | none => none
      | _ => none
    | _, _ => none
  | .me d zero m k => match opnd T m, keyOk d (opnd T k) with
    | .map i, true => match H.t.get i with
      | some (.mp es clock) => match findA d (opnd T k) es 0 with
        | some none => some (.tup [zero, .int .i64 (.ofNat clock)], H.set i (.mp (es ++ [(opnd T k, zero, clock)]) (clock + 1)))
        | some (some (j, k', v, b)) => match flatSame k' (opnd T k) with
          | true => some (.tup [v, .int .i64 (.ofNat b)], H.set i (.mp (es.set j (opnd T k, v, b)) clock))
          | false => none
        | none => none
      | _ => none
    | _, _ => none
  | .es m s v => match opnd T m, opnd T s with
    | .map i, .int _ n => match H.t.get i with
      | some (.mp es clock) => match stampA n es 0 with
        | some (j, k, b) => some (.tup [], H.set i (.mp (es.set j (k, opnd T v, b)) clock))
        | none => none
      | _ => none
    | _, _ => none
  | .dl d m k => match opnd T m, keyOk d (opnd T k) with
    | .nilm, true => some (.tup [], H)
    | .map i, true => match H.t.get i with
      | some (.mp es clock) => match findA d (opnd T k) es 0 with
        | some none => some (.tup [], H.set i (.mp es clock))
        | some (some (j, _, _, _)) => some (.tup [], H.set i (.mp (es.eraseIdx j) clock))
        | none => none
      | _ => none
    | _, _ => none
  | .app sz bytes _ s x => appendA H sz bytes (opnd T s) (opnd T x)
  | _ => none

def findM (t m : Nat) : List (Nat × Nat × Pos) → Option Pos
  | [] => none
  | (t', m', f) :: l => match Nat.beq t t' && Nat.beq m m' with
    | true => some f
    | false => findM t m l

/-- Which function is called, with which arguments. -/
def evalC (E : Env) (T : Tm) : XP → Option (Pos × List AV)
  | .cs f args => some (f, opnds T args)
  | .cd f args => match opnd T f with
    | .fn f first captured => some (f, first ++ opnds T args ++ captured)
    | _ => none
  | .ci r m args => match opnd T r with
    | .ifc t v => match findM t m E.meths with
      | some f => some (f, v :: opnds T args)
      | none => none
    | _ => none
  | _ => none

inductive Ex where
  | normal
  | exit (id : Nat)
  | ret
  deriving Repr

def Tm.set (T : Tm) (d : Option Pos) (v : AV) : Tm :=
  match d with
  | some p => T.put p (some v)
  | none => T

/-- may it come up? none: what it hangs on is no such thing -/
def wantedA (T : Tm) : Option (Pos × Bool) → Option Bool
  | none => some true
  | some (p, b) => match T.get p with
    | some (.bool c) => some (c == b)
    | some (.tup []) => some false
    | _ => none

abbrev CallF := Pos → List AV → Hp → Option (AV × Hp)

def kindOf : XP → Nat
  | .al _ | .bx _ | .bs .. | .mm _ | .ms .. => 1
  | .st .. | .mu .. | .me .. | .es .. | .dl .. | .app .. => 2
  | .cs .. | .cd .. | .ci .. => 3
  | _ => 0

def evalOp (call : CallF) (E : Env) (T : Tm) (H : Hp) (p : XP) : Option (AV × Hp) :=
  match kindOf p with
  | 0 => match evalV E.globals T H p with
    | some v => some (v, H)
    | none => none
  | 1 => match evalA T p with
    | some (o, b) => some (b.of H.next, H.add o)
    | none => none
  | 2 => evalW T H p
  | _ => match evalC E T p with
    | some (f, args) => call f args H
    | none => none

def ops (call : CallF) (E : Env) : List XI → Tm → Hp → Option (Tm × Hp)
  | [], T, H => some (T, H)
  | x :: l, T, H =>
    match wantedA T x.guard with
    | some true => match evalOp call E T H x.op with
      | some (v, H') => ops call E l (T.set x.dst v) H'
      | none => none
    | some false => ops call E l (T.set x.dst AV.undef) H
    | none => none

mutual
def AV.same : AV → AV → Bool
  | .bool a, .bool b => a == b
  | .int k a, .int k' b => Nat.beq (kidx k) (kidx k') && eqI a b
  | .str a, .str b => strEq a b
  | .ptr i a, .ptr j b => i.same j && Nat.beq a b
  | .gp i a, .gp j b => Nat.beq i j && Nat.beq a b
  | .nilp, .nilp => true
  | .slc i a b c d, .slc i' a' b' c' d' => i.same i' && Nat.beq a a' && Nat.beq b b' && Nat.beq d d' && (match c, c' with | none, none => true | some x, some y => Nat.beq x y | _, _ => false)
  | .nils, .nils => true
  | .map i, .map j => i.same j
  | .nilm, .nilm => true
  | .fn f a b, .fn f' a' b' => f.same f' && AV.sames a a' && AV.sames b b'
  | .nilf, .nilf => true
  | .ifc t v, .ifc t' v' => Nat.beq t t' && AV.same v v'
  | .nili, .nili => true
  | .agg a, .agg b => AV.sames a b
  | .tup a, .tup b => AV.sames a b
  | .any, .any => true
  | _, _ => false
def AV.sames : List AV → List AV → Bool
  | [], [] => true
  | a :: l, b :: m => AV.same a b && AV.sames l m
  | _, _ => false
end

def Hp.empty : Hp := ⟨.lf, .h⟩

/-- a value that is the same at each of these heaps -/
def sameAt (G : List (Nat × List AV)) (T : Tm) (p : XP) (v : AV) : List Hp → Bool
  | [] => true
  | H :: l => (match evalV G T H p with | some u => AV.same u v | none => false) && sameAt G T p v l

def Pos.plus (p : Pos) : Nat → Pos
  | 0 => p
  | n + 1 => (p.succ).plus n

def checkReads (G : List (Nat × List AV)) (k : Nat) (H : Hp) : List (XP × Tm × AV × Nat × Nat) → Bool
  | [] => true
  | (p, T, v, lo, hi) :: l =>
    (match Nat.ble lo k && Nat.ble k hi with
      | true => (match evalV G T H p with | some u => AV.same u v | none => false)
      | false => true) && checkReads G k H l

def heapsIn (lo : Nat) : List (Nat × Hp) → List Hp
  | [] => []
  | (k, H) :: l => match Nat.ble lo k with
    | true => H :: heapsIn lo l
    | false => []

/-- Where a region that draws its order stands: k: how many heavy ones are done; hs: the heaps right behind each, the last one first; rs: reads to be looked at again (what, by which temporaries, its value, from, to). -/
structure SD where
  T : Tm
  H : Hp
  k : Nat
  hs : List (Nat × Hp)
  rs : List (XP × Tm × AV × Nat × Nat)

/-- One operation of such a region. base: the first kept number. -/
def stepD (call : CallF) (E : Env) (base : Pos) (x : XI × Role) (s : SD) : Option SD :=
  match wantedA s.T x.1.guard with
  | none => none
  | some false => match x.2 with
    | .heavy => match checkReads E.globals (s.k + 1) s.H s.rs with
      | true => some ⟨s.T.set x.1.dst AV.undef, s.H, s.k + 1, (s.k + 1, s.H) :: s.hs, s.rs⟩
      | false => none
    | _ => some ⟨s.T.set x.1.dst AV.undef, s.H, s.k, s.hs, s.rs⟩
  | some true =>
    match x.2 with
    | .pure => match evalV E.globals s.T Hp.empty x.1.op with
      | some v => some ⟨s.T.set x.1.dst v, s.H, s.k, s.hs, s.rs⟩
      | none => none
    | .read lo hi =>
      match s.hs with
      | (_, V) :: _ => match evalV E.globals s.T V x.1.op with
        | some v => match sameAt E.globals s.T x.1.op v (heapsIn lo s.hs) with
          | true => some ⟨s.T.set x.1.dst v, s.H, s.k, s.hs, (x.1.op, s.T, v, lo, hi) :: s.rs⟩
          | false => none
        | none => none
      | [] => none
    | .alloc n => match evalA s.T x.1.op with
      | some (o, b) => some ⟨s.T.set x.1.dst (b.of (base.plus n)), ⟨s.H.t.put (base.plus n) (some o), s.H.next⟩, s.k, s.hs, s.rs⟩
      | none => none
    | .heavy => match evalOp call E s.T s.H x.1.op with
      | some (v, H') => match checkReads E.globals (s.k + 1) H' s.rs with
        | true => some ⟨s.T.set x.1.dst v, H', s.k + 1, (s.k + 1, H') :: s.hs, s.rs⟩
        | false => none
      | none => none
def runD (call : CallF) (E : Env) (base : Pos) : List (XI × Role) → SD → Option SD
  | [], s => some s
  | x :: l, s => match stepD call E base x s with
    | some s' => runD call E base l s'
    | none => none

def body (call : CallF) (E : Env) : Nat → XC → Tm → Hp → Option (Ex × Tm × Hp)
  | 0, _, _, _ => none
  | _ + 1, .skip, T, H => some (.normal, T, H)
  | _ + 1, .rg l, T, H => match ops call E l T H with
    | some (T', H') => some (.normal, T', H')
    | none => none
  | _ + 1, .rgd a l, T, H => match runD call E H.next l ⟨T, ⟨H.t, H.next.plus a⟩, 0, [(0, ⟨H.t, H.next.plus a⟩)], []⟩ with
    | some s => some (.normal, s.T, s.H)
    | none => none
  | n + 1, .seq a b, T, H => match body call E n a T H with
    | some (.normal, T', H') => body call E n b T' H'
    | r => r
  | n + 1, .cond c a b, T, H => match opnd T c with
    | .bool true => body call E n a T H
    | .bool false => body call E n b T H
    | _ => none
  | n + 1, .block id b, T, H => match body call E n b T H with
    | some (.exit id', T', H') => match Nat.beq id id' with
      | true => some (.normal, T', H')
      | false => some (.exit id', T', H')
    | r => r
  | n + 1, .loop b, T, H => match body call E n b T H with
    | some (.normal, T', H') => body call E n (.loop b) T' H'
    | r => r
  | _ + 1, .exit id, T, H => some (.exit id, T, H)
  | _ + 1, .ret, T, H => some (.ret, T, H)

def argsT : List AV → Pos → Tm → Tm
  | [], _, T => T
  | v :: l, p, T => argsT l p.succ (T.put p (some v))

def resA (G : List (Nat × List AV)) (T : Tm) (H : Hp) : List XR → Option (List AV)
  | [] => some []
  | .tmp p :: l => match resA G T H l with
    | some vs => some (opnd T (.t p) :: vs)
    | none => none
  | .cell p agg n :: l => match cellsAt H G (opnd T (.t p)), resA G T H l with
    | some (cs, off), some vs => match takeA agg cs off n with
      | some v => some (v :: vs)
      | none => none
    | _, _ => none
def resV : List AV → AV
  | [v] => v
  | vs => .tup vs

def callN (E : Env) : Nat → CallF
  | 0, _, _, _ => none
  | n + 1, f, args, H => match E.sums.get f with
    | some F => F args H
    | none => match E.code.get f with
      | none => none
      | some x => match body (callN E n) E n x.body (argsT args .h .lf) H with
        | some (.exit _, _, _) => none
        | some (_, T', H') => match resA E.globals T' H' x.results with
          | some vs => some (resV vs, H')
          | none => none
        | none => none

end
end Go.Ev
