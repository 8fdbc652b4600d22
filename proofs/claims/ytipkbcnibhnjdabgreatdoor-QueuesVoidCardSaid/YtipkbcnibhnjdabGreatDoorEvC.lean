/-
From the model's code to the evaluator's instructions.
-/
import Derived.Test.YtipkbcnibhnjdabGreatDoorEvB
set_option linter.unusedVariables false
set_option linter.unusedSimpArgs false
namespace Go.Ev

mutual
def liftV : Nat → Value → Option AV
  | 0, _ => none
  | _ + 1, .bool b => some (.bool b)
  | _ + 1, .int k n => some (.int k n)
  | _ + 1, .string s => some (.str s.data.toList)
  | _ + 1, .pointer none => some .nilp
  | _ + 1, .slice none 0 0 => some .nils
  | _ + 1, .map none => some .nilm
  | _ + 1, .nilFunc => some .nilf
  | _ + 1, .nilIface => some .nili
  | f + 1, .agg cs => match liftL f cs.toList with
    | some l => some (.agg l)
    | none => none
  | f + 1, .tuple cs => match liftL f cs.toList with
    | some l => some (.tup l)
    | none => none
  | _ + 1, _ => none
def liftL : Nat → List Value → Option (List AV)
  | 0, _ => none
  | _ + 1, [] => some []
  | f + 1, v :: l => match liftV f v, liftL f l with
    | some a, some m => some (a :: m)
    | _, _ => none
end
def liftF : Nat := 3000

def tpos (t : Nat) : Pos := Pos.ofNat (t + 1)
def lowX : Operand → Option XO
  | .tmp t => match Nat.ble t 100000 with
    | true => some (.t (tpos t))
    | false => none
  | .const v => (liftV liftF v).map .c
  | .global g => some (.c (.gp g 0))
  | .func f => match Nat.ble f 100000 with
    | true => some (.c (.fn (tpos f) [] []))
    | false => none
def lowXs : List Operand → Option (List XO)
  | [] => some []
  | x :: l => match lowX x, lowXs l with
    | some a, some m => some (a :: m)
    | _, _ => none
def lowO : Option Operand → Option (Option XO)
  | none => some none
  | some x => match lowX x with
    | some a => some (some a)
    | none => none

section
variable (P : Program)
def agg? (t : TypeId) : Bool := match P.underlying t with | some (.struct _) | some (.array _ _) => true | _ => false
def hasU (t : TypeId) : Option Unit := match P.underlying t with | some _ => some () | none => none
def size? (t : TypeId) : Option Nat := (P.info? t).map (·.size)
def zero? (t : TypeId) : Option (List AV) :=
  match P.info? t with
  | some i => match i.zero with
    | some z => liftL liftF z.cells.toList
    | none => none
  | none => none
def zeroV? (t : TypeId) : Option AV :=
  match P.info? t with
  | some i => match i.zero with
    | some z => liftV liftF z
    | none => none
  | none => none
mutual
def eqDesc : Nat → TypeId → Option EQ
  | 0, _ => none
  | f + 1, t =>
    match P.underlying t with
    | some (.int _) => some .li
    | some .bool => some .lb
    | some .string => some .ls
    | some (.struct fs) => match P.stoodInHeld t with
      | true => none
      | false => match eqDescs f fs.toList with
        | some l => some (.st l)
        | none => none
    | _ => none
def eqDescs : Nat → List Field → Option (List (Nat × Nat × EQ))
  | 0, _ => none
  | _ + 1, [] => some []
  | f + 1, x :: l => match x.name == "_", size? P x.type, eqDesc f x.type, eqDescs f l with
    | false, some n, some d, some m => match agg? P x.type || Nat.beq n 1 with
      | true => some ((x.offset, n, d) :: m)
      | false => none
    | _, _, _, _ => none
end
/-- .. of an array too, by its elements -/
def eqDescA (f : Nat) (t : TypeId) : Option EQ :=
  match P.underlying t with
  | some (.array n e) => match P.info? e, eqDesc P f e with
    | some i, some d => match agg? P e || Nat.beq i.size 1 with
      | true => some (.st ((List.range n).map fun j => (j * i.size, i.size, d)))
      | false => none
    | _, _ => none
  | _ => eqDesc P f t
def boOf : BinOp → Option BO
  | .add => some .add | .sub => some .sub | .mul => some .mul | .quo => some .quo | .rem => some .rem
  | .and => some .and | .or => some .or | .xor => some .xor | .andNot => some .andNot | .shl => some .shl | .shr => some .shr
  | .eql => some .eql | .neq => some .neq | .lss => some .lss | .leq => some .leq | .gtr => some .gtr | .geq => some .geq
def lowParts (place : Nat → Option (Nat × Nat)) : List (Nat × Operand) → Option (List (Nat × Nat × XO))
  | [] => some []
  | (i, x) :: l => match place i, lowX x, lowParts place l with
    | some (a, n), some y, some m => some ((a, n, y) :: m)
    | _, _, _ => none
def idxOfName (names : List String) (s : String) : Option Nat := names.findIdx? (· == s)
def lowBin (op : BinOp) (t : TypeId) (x y : Operand) : Option XP := do
  let a ← lowX x
  let b ← lowX y
  match P.underlying t with
  | some (.int _) | some .string => pure (.bin (← boOf op) a b)
  | some .bool => match op with
    | .eql => pure (.eqv false .lb a b)
    | .neq => pure (.eqv true .lb a b)
    | _ => none
  | some (.struct _) | some (.array _ _) => match P.eqGuardType P.depth t with
    | true => none
    | false => match op with
      | .eql => pure (.eqv false (← eqDescA P 20 t) a b)
      | .neq => pure (.eqv true (← eqDescA P 20 t) a b)
      | _ => none
  | some (.interface _) => match op, x, y with
    | .eql, _, .const .nilIface => pure (.isn false a)
    | .neq, _, .const .nilIface => pure (.isn true a)
    | _, _, _ => none
  | some (.pointer e) => match (match size? P e with | some 0 => none | some _ => some () | none => none), op with
    | some (), .eql => pure (.eqp 0 false a b)
    | some (), .neq => pure (.eqp 0 true a b)
    | _, _ => none
  | some (.slice _) => match op with
    | .eql => pure (.eqp 1 false a b)
    | .neq => pure (.eqp 1 true a b)
    | _ => none
  | some (.map _ _) => match op with
    | .eql => pure (.eqp 2 false a b)
    | .neq => pure (.eqp 2 true a b)
    | _ => none
  | some (.func _ _ _) => match op with
    | .eql => pure (.eqp 3 false a b)
    | .neq => pure (.eqp 3 true a b)
    | _ => none
  | _ => none
def lowCall (names : List String) (c : Call) : Option XP := do
  let args ← lowXs c.args.toList
  match c.callee with
  | .value (.func f) => match (P.funcs[f]?).map fun fn => fn.body.isSome && !(fn.name == "runtime.NumGoroutine") with
    | some true => match Nat.ble f 100000 with
      | true => pure (.cs (tpos f) args)
      | false => none
    | _ => none
  | .value f => pure (.cd (← lowX f) args)
  | .invoke r n => pure (.ci (← lowX r) (← idxOfName names n) args)
  | .builtin b =>
    match b, args, c.argTypes.toList with
    | .len, [x], [t] => match P.underlying t with
      | some (.slice _) => pure (.lens x)
      | some .string => pure (.lent x)
      | some (.map _ _) => pure (.lenm x)
      | some (.array n _) => pure (.mv (.c (.int .i64 (.ofNat n))))
      | _ => none
    | .cap, [x], [t] => match P.underlying t with
      | some (.slice _) => pure (.cap x)
      | _ => none
    | .append, [s, x], [t, u] => match P.underlying t, P.underlying u with
      | some (.slice e), some (.slice _) => match P.info? e with
        | some i => match zero? P e with
          | some z => match z.length == i.size && Nat.ble 1 i.size && Nat.beq t u with
            | true => pure (.app i.size i.bytes z s x)
            | false => none
          | none => none
        | none => none
      | _, _ => none
    | .delete, [m, k], [t, _] => match P.underlying t with
      | some (.map kt _) => pure (.dl (← eqDesc P 20 kt) m k)
      | _ => none
    | .min, [x, y], _ => pure (.mn x y)
    | .max, [x, y], _ => pure (.mx x y)
    | _, _, _ => none
def lowOp (names : List String) (o : Op) : Option XP :=
  match o with
  | .move x | .assign x => do pure (.mv (← lowX x))
  | .pick c a b => do pure (.pick (← lowX c) (← lowX a) (← lowX b))
  | .alloc e => do pure (.al (← zero? P e))
  | .box _ x => do pure (.bx (← lowX x))
  | .build t ps => do
    let z ← zero? P t
    match P.underlying t with
    | some (.struct fs) => match fs.toList.mapM (fun f => (P.info? f.type).map fun i => (f.offset, i.size)) with
      | some places => pure (.bd z (← lowParts (fun i => places[i]?) ps.toList))
      | none => none
    | some (.array _ e) => do
      let n ← size? P e
      pure (.bd z (← lowParts (fun i => some (i * n, n)) ps.toList))
    | _ => none
  | .buildSlice t len ps => do
    match P.underlying t with
    | some (.slice e) => do
      let n ← size? P e
      let z ← zero? P e
      match z.length == n && Nat.ble 1 n && Nat.ble (len * n) 16777216 with
      | true => pure (.bs n len z (← lowParts (fun i => some (i * n, n)) ps.toList))
      | false => none
    | _ => none
  | .load t a => do
    let x ← lowX a
    let _ ← hasU P t
    match agg? P t with
    | true => pure (.ldn x (← size? P t))
    | false => pure (.ld x)
  | .store t a v => do pure (.st (← lowX a) (← lowX v) (← size? P t))
  | .nilCheck x => do pure (.ne (← lowX x))
  | .binOp op t x y _ => lowBin P op t x y
  | .unOp op _ x => do
    let a ← lowX x
    match op with
    | .not => pure (.not a)
    | .neg => pure (.neg a)
    | _ => none
  | .convert s d x => do
    let a ← lowX x
    match P.underlying s, P.underlying d with
    | some (.int _), some (.int k) => pure (.cv k a)
    | _, _ => none
  | .makeInterface t x => do
    let a ← lowX x
    match P.underlying t with
    | some (.interface _) => none
    | some _ => pure (.mi t a)
    | none => none
  | .makeFunc (.func f) first captured => match Nat.ble f 100000 with
    | true => do pure (.mf (tpos f) (← lowXs first.toList) (← lowXs captured.toList))
    | false => none
  | .makeMap t r => match P.underlying t with
    | some (.map _ _) => do pure (.mm (← lowO r))
    | _ => none
  | .makeSlice t l c => do
    match P.underlying t with
    | some (.slice e) => match P.info? e with
      | some i => do
        let z ← zero? P e
        match z.length == i.size && Nat.ble 1 i.size with
        | true => pure (.ms i.size i.bytes z (← lowX l) (← lowX c))
        | false => none
      | none => none
    | _ => none
  | .slice t x lo hi mx => do
    match P.underlying t with
    | some (.slice e) => pure (.sl (← size? P e) (← lowX x) (← lowO lo) (← lowO hi) (← lowO mx))
    | _ => none
  | .fieldAddr s x f => do
    match P.underlying s with
    | some (.struct fs) => do
      let fd ← fs[f]?
      let n ← size? P fd.type
      match n == 0 with
      | true => none
      | false => pure (.fa (← lowX x) fd.offset)
    | _ => none
  | .field s x f => do
    match P.underlying s with
    | some (.struct fs) => do
      let fd ← fs[f]?
      let _ ← hasU P fd.type
      pure (.fd (agg? P fd.type) (← lowX x) fd.offset (← size? P fd.type))
    | _ => none
  | .indexAddr t x i => do
    match P.underlying t with
    | some (.slice e) => pure (.ia (← size? P e) (← lowX x) (← lowX i))
    | some (.array n e) => pure (.iaa n (← size? P e) (← lowX x) (← lowX i))
    | _ => none
  | .index t x i => do
    match P.underlying t with
    | some (.array n e) => do
      let _ ← hasU P e
      pure (.ix (agg? P e) n (← size? P e) (← lowX x) (← lowX i))
    | some .string => pure (.ixs (← lowX x) (← lowX i))
    | _ => none
  | .lookup t x k ok => do
    match P.underlying t with
    | some (.map kt e) => pure (.lk (← eqDesc P 20 kt) (← zeroV? P e) (← lowX x) (← lowX k) ok)
    | _ => none
  | .mapUpdate t m k v | .insert t m k v => do
    match P.underlying t with
    | some (.map kt _) => pure (.mu (← eqDesc P 20 kt) (← lowX m) (← lowX k) (← lowX v))
    | _ => none
  | .mapEntry t m k => do
    match P.underlying t with
    | some (.map kt e) => pure (.me (← eqDesc P 20 kt) (← zeroV? P e) (← lowX m) (← lowX k))
    | _ => none
  | .entryStore t m s v => do
    match P.underlying t with
    | some (.map _ _) => pure (.es (← lowX m) (← lowX s) (← lowX v))
    | _ => none
  | .typeAssert x _ t ok => do
    match P.underlying t with
    | some (.interface _) => none
    | some _ => pure (.ta t (← zeroV? P t) (← lowX x) ok)
    | none => none
  | .extract t n => do pure (.ex (← lowX t) n)
  | .call c => lowCall P names c
  | _ => none
def lowGuard (ops : Array Oper) (o : Oper) : Option (Option (Pos × Bool)) :=
  match o.guard with
  | none => some none
  | some (j, b) => match (ops[j]?).bind (·.dst) with
    | some d => match Nat.ble d 100000 with
      | true => some (some (tpos d, b))
      | false => none
    | none => none
def lowI (names : List String) (ntmps : Nat) (ops : Array Oper) (o : Oper) : Option XI :=
  match lowOp P names o.op, lowGuard ops o, (match o.dst with | some d => Nat.ble (d + 1) ntmps && Nat.ble d 100000 | none => true) with
  | some p, some g, true => some { dst := o.dst.map tpos, guard := g, op := p }
  | _, _, _ => none
def lowIs (names : List String) (ntmps : Nat) (ops : Array Oper) : List Oper → Option (List XI)
  | [] => some []
  | o :: l => match lowI P names ntmps ops o, lowIs names ntmps ops l with
    | some x, some m => some (x :: m)
    | _, _ => none
end

-- the plan of a region that draws its order
/-- which operations surely come ahead of each, as bits -/
def ancs : List Oper → List Nat → List Nat
  | [], acc => acc
  | o :: l, acc => ancs l (acc ++ [o.after.toList.foldl (fun s (e : Edge) => match Region.binds .any e with
      | true => s ||| 2 ^ e.on ||| acc.getD e.on 0
      | false => s) 0])
def isReadX : XP → Bool
  | .ld _ | .ldn .. | .eqp .. | .lk .. | .lenm _ => true
  | _ => false
def heaviesX (xs : List XI) : List Nat := (List.range xs.length).filter fun i => Nat.ble 2 (kindOf ((xs.getD i default).op))
def planRow (A : List Nat) (hs : List Nat) (xs : List XI) (kept : Nat) (i : Nat) : Role × Nat :=
  let x := (xs.getD i default).op
  match kindOf x with
  | 0 => match isReadX x with
    | true => (.read (hs.filter fun h => (A.getD i 0).testBit h).length (hs.length - (hs.filter fun h => (A.getD h 0).testBit i).length), kept)
    | false => (.pure, kept)
  | 1 => (.alloc kept, kept + 1)
  | _ => (.heavy, kept)
def planRows (A hs : List Nat) (xs : List XI) : List Nat → Nat → List (Nat × Role) × Nat
  | [], kept => ([], kept)
  | i :: l, kept =>
    let (r, kept') := planRow A hs xs kept i
    let (m, k) := planRows A hs xs l kept'
    ((i, r) :: m, k)
def orderOf (A : List Nat) (n : Nat) : List Nat → List Nat → List Nat
  | [], out => out ++ (List.range n).filter (fun i => !out.contains i)
  | h :: hs, out => orderOf A n hs (out ++ ((List.range n).filter fun i => (A.getD h 0).testBit i && !out.contains i) ++ [h])
def planOf (ops : List Oper) (xs : List XI) : List (Nat × Role) × Nat :=
  let A := ancs ops []
  let hs := heaviesX xs
  planRows A hs xs (orderOf A xs.length hs []) 0

-- is a plan fit?
def tmpsOf (ops : List Oper) (o : Oper) : List Nat :=
  (o.op.operands.toList.filterMap fun | .tmp t => some t | _ => none) ++
  (match o.guard with
   | some (j, _) => ((ops[j]?).bind (·.dst)).toList
   | none => [])
def oper (ops : List Oper) (i : Nat) : Oper := ops.getD i default
def anc (A : List Nat) (i j : Nat) : Bool := (A.getD i 0).testBit j
def isHeavy : Role → Bool
  | .heavy => true
  | _ => false
def heavyOf (l : List (Nat × Role)) : List Nat := (l.filter fun x => isHeavy x.2).map (·.1)
def rank (l : List (Nat × Role)) (p : Nat) : Nat := ((l.take p).filter fun x => isHeavy x.2).length
def allocOf : Role → Option Nat
  | .alloc c => some c
  | _ => none
/-- whatever surely comes ahead does so by an edge, or by what surely comes ahead of an edge's end; edges go back -/
def ckEdges (ops : List Oper) (A : List Nat) (n : Nat) : Bool :=
  (List.range n).all fun i =>
    ((oper ops i).after.toList.all fun (e : Edge) => !Region.binds .any e || Nat.blt e.on i) &&
    (List.range n).all fun j => !anc A i j || (oper ops i).after.toList.any fun (e : Edge) => Region.binds .any e && (Nat.beq j e.on || anc A e.on j)
/-- each temporary is written once; what is read of the region's own is written by what surely comes ahead, or by what surely comes behind -/
def ckTmps (ops : List Oper) (A : List Nat) (n : Nat) : Bool :=
  (List.range n).all fun i => (List.range n).all fun j => Nat.beq i j ||
    match (oper ops j).dst with
    | none => true
    | some d => !((oper ops i).dst == some d) && (!(tmpsOf ops (oper ops i)).contains d || (anc A i j || anc A j i))
/-- the canonical order has each operation, once, behind what surely comes ahead of it -/
def ckOrder (A : List Nat) (n : Nat) (l : List (Nat × Role)) : Bool :=
  Nat.beq l.length n && ((List.range n).all fun i => (l.map (·.1)).contains i) &&
  (List.range n).all fun p => Nat.blt ((l.map (·.1)).getD p n) n &&
    !((l.map (·.1)).take p).contains ((l.map (·.1)).getD p n) &&
    (List.range n).all fun j => !anc A ((l.map (·.1)).getD p n) j || ((l.map (·.1)).take p).contains j
/-- roles fit -/
def ckRoles (A : List Nat) (n a : Nat) (l : List (Nat × Role)) : Bool :=
  (List.range n).all fun p =>
    match l[p]? with
    | none => true
    | some (i, r) => match r with
      | .heavy => match rank l p with
        | 0 => true
        | k + 1 => anc A i ((heavyOf l).getD k n)
      | .pure => true
      | .read lo hi => (match lo with
          | 0 => true
          | k + 1 => Nat.blt k (heavyOf l).length && anc A i ((heavyOf l).getD k n)) &&
        (Nat.ble (heavyOf l).length hi || anc A ((heavyOf l).getD hi n) i)
      | .alloc c => Nat.blt c a && !((l.take p).filterMap fun x => allocOf x.2).contains c &&
        (Nat.beq (rank l p) (heavyOf l).length || anc A ((heavyOf l).getD (rank l p) n) i)
def ckPlan (ops : List Oper) (a : Nat) (l : List (Nat × Role)) : Bool :=
  ckEdges ops (ancs ops []) ops.length && ckTmps ops (ancs ops []) ops.length && ckOrder (ancs ops []) ops.length l && ckRoles (ancs ops []) ops.length a l

section
variable (P : Program) (names : List String) (ntmps : Nat)
def lowC : Code → Option XC
  | .skip => some .skip
  | .region _ ops draw => match lowIs P names ntmps ops ops.toList with
    | some xs => match draw with
      | false => some (.rg xs)
      | true =>
        match ckPlan ops.toList (planOf ops.toList xs).2 (planOf ops.toList xs).1 with
        | true => some (.rgd (planOf ops.toList xs).2 ((planOf ops.toList xs).1.map fun x => (xs.getD x.1 default, x.2)))
        | false => none
    | none => none
  | .seq a b => match lowC a, lowC b with
    | some x, some y => some (.seq x y)
    | _, _ => none
  | .cond c a b => match lowX c, lowC a, lowC b with
    | some z, some x, some y => some (.cond z x y)
    | _, _, _ => none
  | .block id b => (lowC b).map (.block id)
  | .loop b => (lowC b).map .loop
  | .exit id => some (.exit id)
  | .ret => some .ret
  | _ => none
def lowR : List ResultVar → Option (List XR)
  | [] => some []
  | .tmp t :: l => match Nat.ble t 100000, lowR l with
    | true, some m => some (.tmp (tpos t) :: m)
    | _, _ => none
  | .cell a t :: l => match Nat.ble a 100000, hasU P t, size? P t, lowR l with
    | true, some _, some n, some m => some (.cell (tpos a) (agg? P t) n :: m)
    | _, _, _, _ => none
end
def lowF (P : Program) (names : List String) (fn : Func) : Option XF :=
  match fn.body with
  | none => none
  | some c => match lowC P names fn.ntmps c, lowR P fn.results.toList with
    | some b, some r => some ⟨b, r⟩
    | _, _ => none

end Go.Ev
