/-
The evaluator once more, in a form that the kernel reduces fast; it is the same.
-/
import Derived.Test.YtipkbcnibhnjdabGreatDoorEvC
set_option linter.unusedVariables false
set_option linter.unusedSimpArgs false
namespace Go.Ev.F
open Go.Ev
noncomputable section

def orU (o : Option AV) : AV := Option.rec .any (fun v => v) o
def opnd (T : Tm) (x : XO) : AV := XO.rec (motive := fun _ => Tm → AV) (fun p T => orU (T.get p)) (fun v _ => v) x T
def opnds (T : Tm) (l : List XO) : List AV := List.rec [] (fun x _ ih => opnd T x :: ih) l
def set (T : Tm) (d : Option Pos) (v : AV) : Tm := Option.rec (motive := fun _ => Tm → AV → Tm) (fun T _ => T) (fun p T v => T.put p (some v)) d T v

abbrev R := Option (AV × Hp)
abbrev KO := CallF → Env → Tm → Hp → R

def slow (p : XP) : KO := fun call E T H => evalOp call E T H p

-- what a value is
def asPG (v : AV) : (Pos → Nat → R) → (Nat → Nat → R) → R :=
  AV.casesOn (motive_1 := fun _ => (Pos → Nat → R) → (Nat → Nat → R) → R) v (fun _ _ _ => none) (fun _ _ _ _ => none) (fun _ _ _ => none) (fun i a k _ => k i a) (fun g a _ k => k g a) (fun _ _ => none) (fun _ _ _ _ _ _ _ => none) (fun _ _ => none) (fun _ _ _ => none) (fun _ _ => none) (fun _ _ _ _ _ => none) (fun _ _ => none) (fun _ _ _ _ => none) (fun _ _ => none) (fun _ _ _ => none) (fun _ _ _ => none) (fun _ _ => none)
def asB (v : AV) : (Bool → R) → R :=
  AV.casesOn (motive_1 := fun _ => (Bool → R) → R) v (fun b k => k b) (fun _ _ _ => none) (fun _ _ => none) (fun _ _ _ => none) (fun _ _ _ => none) (fun _ => none) (fun _ _ _ _ _ _ => none) (fun _ => none) (fun _ _ => none) (fun _ => none) (fun _ _ _ _ => none) (fun _ => none) (fun _ _ _ => none) (fun _ => none) (fun _ _ => none) (fun _ _ => none) (fun _ => none)

def pickB (a b : AV) (H : Hp) (c : Bool) : R := Bool.rec (some (b, H)) (some (a, H)) c
def oMv (x : XO) : KO := fun _ _ T H => some (opnd T x, H)
def oPick (c a b : XO) : KO := fun _ _ T H => asB (opnd T c) (pickB (opnd T a) (opnd T b) H)
def oNot (x : XO) : KO := fun _ _ T H => asB (opnd T x) (fun b => some (.bool !b, H))
def oNe (x : XO) : KO := fun _ _ T H => match opnd T x with
    | .ptr i a => some (.ptr i a, H)
    | .gp g a => some (.gp g a, H)
    | .fn f a b => some (.fn f a b, H)
    | .ifc t v => some (.ifc t v, H)
    | _ => none
def lift (H : Hp) (r : Option AV) : R := Option.rec none (fun v => some (v, H)) r
def atObj (H : Hp) (off : Nat) (o : AObj) : R := AObj.rec (fun cs => lift H (at? cs off)) (fun _ _ => none) (fun k m c => Bool.rec none (lift H (at? (m.flatMap (rowCells (layOf c))) off)) (Nat.beq k 1)) (fun m c => lift H (at? (m.flatMap (rowCells (layOf c))) off)) o
def atBlock (H : Hp) (i : Pos) (off : Nat) : R := Option.rec none (atObj H off) (H.t.get i)
def oLd (x : XO) : KO := fun _ E T H => asPG (opnd T x) (atBlock H) (fun g a => Option.rec none (fun cs => lift H (at? cs a)) (gfind g E.globals))
def cutL (H : Hp) (r : Option (List AV)) : R := Option.rec none (fun l => some (.agg l, H)) r
def cutObj (H : Hp) (off n : Nat) (o : AObj) : R := AObj.rec (fun cs => cutL H (cut cs off n)) (fun _ _ => none) (fun k m c => Bool.rec none (cutL H (cut (m.flatMap (rowCells (layOf c))) off n)) (Nat.beq k 1)) (fun m c => cutL H (cut (m.flatMap (rowCells (layOf c))) off n)) o
def cutBlock (H : Hp) (n : Nat) (i : Pos) (off : Nat) : R := Option.rec none (cutObj H off n) (H.t.get i)
def oLdn (x : XO) (n : Nat) : KO := fun _ E T H => asPG (opnd T x) (cutBlock H n) (fun g a => Option.rec none (fun cs => cutL H (cut cs a n)) (gfind g E.globals))
def oFa (x : XO) (off : Nat) : KO := fun _ _ T H => asPG (opnd T x) (fun i a => some (.ptr i (a + off), H)) (fun g a => some (.gp g (a + off), H))
def oBin (o : BO) (x y : XO) : KO := fun _ _ T H => lift H (binV o (opnd T x) (opnd T y))
def oEx (x : XO) (n : Nat) : KO := fun _ _ T H => match opnd T x with
    | .tup vs => lift H (at? vs n)
    | _ => none
def oAl (cs : List AV) : KO := fun _ _ _ H => some (.ptr H.next 0, H.add (.cells cs))
def oBx (x : XO) : KO := fun _ _ T H => Bool.rec none (some (.ptr H.next 0, H.add (.cells (opnd T x).cells))) (opnd T x).known
def oCs (f : Pos) (args : List XO) : KO := fun call _ T H => call f (opnds T args) H
def stK (b : Bool) (vs : List AV) (H : Hp) (a : AV) : R := Bool.rec none (Option.rec none (fun H' => some (.tup [], H')) (storeA H a vs)) b
def oSt (a x : XO) (n : Nat) : KO := fun _ _ T H => stK (Nat.beq (opnd T x).cells.length n) (opnd T x).cells H (opnd T a)

def op (p : XP) : KO := XP.rec (motive := fun _ => KO)
  oMv oPick oNe oAl oBx (fun a b => slow (.bd a b)) (fun a b c d => slow (.bs a b c d)) oLd oLdn oSt oBin (fun a b c d => slow (.eqv a b c d)) (fun a b c d => slow (.eqp a b c d)) (fun a b => slow (.isn a b)) oNot (fun a => slow (.neg a)) (fun a b => slow (.cv a b)) (fun a b => slow (.mi a b)) (fun a b c => slow (.mf a b c)) (fun a => slow (.mm a)) (fun a b c d e => slow (.ms a b c d e)) (fun a b c d e => slow (.sl a b c d e)) oFa (fun a b c d => slow (.fd a b c d)) (fun a b c => slow (.ia a b c)) (fun a b c d => slow (.iaa a b c d)) (fun a b c d e => slow (.ix a b c d e)) (fun a b => slow (.ixs a b)) (fun a b c d e => slow (.lk a b c d e)) (fun a b c d => slow (.mu a b c d)) (fun a b c d => slow (.me a b c d)) (fun a b c => slow (.es a b c)) (fun a b c => slow (.dl a b c)) (fun a b c d => slow (.ta a b c d)) oEx (fun a => slow (.lens a)) (fun a => slow (.lent a)) (fun a => slow (.lenm a)) (fun a => slow (.cap a)) (fun a b c d e => slow (.app a b c d e)) (fun a b => slow (.mn a b)) (fun a b => slow (.mx a b)) oCs (fun a b => slow (.cd a b)) (fun a b c => slow (.ci a b c)) p

abbrev KR := Tm → Hp → Option (Tm × Hp)
def opsNil : KR := fun T H => some (T, H)
def opsDone (d : Option Pos) (ih : KR) (T : Tm) (r : R) : Option (Tm × Hp) := Option.rec none (fun x => Prod.rec (fun v H' => ih (set T d v) H') x) r
def wantT (call : CallF) (E : Env) (d : Option Pos) (p : XP) (ih : KR) (T : Tm) (H : Hp) : Option (Tm × Hp) := opsDone d ih T (op p call E T H)
def wantG (w : Option Bool) (call : CallF) (E : Env) (d : Option Pos) (p : XP) (ih : KR) (T : Tm) (H : Hp) : Option (Tm × Hp) :=
  match w with
  | some true => wantT call E d p ih T H
  | some false => ih (set T d AV.undef) H
  | none => none
def opsGo (call : CallF) (E : Env) (d : Option Pos) (p : XP) (ih : KR) (T : Tm) (H : Hp) (g : Option (Pos × Bool)) : Option (Tm × Hp) :=
  Option.rec (motive := fun _ => Option (Tm × Hp)) (wantT call E d p ih T H) (fun x => wantG (wantedA T (some x)) call E d p ih T H) g
def opsCons (call : CallF) (E : Env) (x : XI) (_ : List XI) (ih : KR) : KR := fun T H => XI.rec (fun d g p => opsGo call E d p ih T H g) x
def ops (call : CallF) (E : Env) (l : List XI) : KR := List.rec (motive := fun _ => KR) opsNil (opsCons call E) l

def stepHeavy (E : Env) (d : Option Pos) (T : Tm) (k : Nat) (hs : List (Nat × Hp)) (rs : List (XP × Tm × AV × Nat × Nat)) (r : R) : Option SD := match r with
  | some (v, H') => match checkReads E.globals (k + 1) H' rs with
        | true => some ⟨set T d v, H', k + 1, (k + 1, H') :: hs, rs⟩
        | false => none
  | none => none
def stepPure (d : Option Pos) (T : Tm) (H : Hp) (k : Nat) (hs : List (Nat × Hp)) (rs : List (XP × Tm × AV × Nat × Nat)) (r : R) : Option SD := match r with
  | some (v, _) => some ⟨set T d v, H, k, hs, rs⟩
  | none => none
/-- a pure operation gives what it gives -/
def isPure (p : XP) : Bool := Nat.beq (kindOf p) 0
def stepD (call : CallF) (E : Env) (base : Pos) (x : XI × Role) (s : SD) : Option SD :=
  match wantedA s.T x.1.guard, x.2 with
  | some true, .heavy => stepHeavy E x.1.dst s.T s.k s.hs s.rs (op x.1.op call E s.T s.H)
  | _, _ => Ev.stepD call E base x s
def runD (call : CallF) (E : Env) (base : Pos) : List (XI × Role) → SD → Option SD
  | [], s => some s
  | x :: l, s => match stepD call E base x s with
    | some s' => runD call E base l s'
    | none => none

abbrev RB := Option (Ex × Tm × Hp)
abbrev KB := XC → Tm → Hp → RB
abbrev KE := CallF → Env → KB → Tm → Hp → RB
def toN (r : Option (Tm × Hp)) : RB := Option.rec none (fun x => Prod.rec (fun T H => some (.normal, T, H)) x) r
def seqE (T : Tm) (H : Hp) (k : Tm → Hp → RB) (e : Ex) : RB := Ex.rec (k T H) (fun id => some (.exit id, T, H)) (some (.ret, T, H)) e
def seqP (k : Tm → Hp → RB) (x : Ex × Tm × Hp) : RB := Prod.rec (fun e y => Prod.rec (fun T H => seqE T H k e) y) x
def seqK (k : Tm → Hp → RB) (r : RB) : RB := Option.rec none (seqP k) r
def condK (a b : Tm → Hp → RB) (T : Tm) (H : Hp) (v : AV) : RB := match v with
  | .bool true => a T H
  | .bool false => b T H
  | _ => none
def blockK (id : Nat) (r : RB) : RB := match r with
    | some (.exit id', T', H') => match Nat.beq id id' with
      | true => some (.normal, T', H')
      | false => some (.exit id', T', H')
    | r => r
def bSkip : KE := fun _ _ _ T H => some (.normal, T, H)
def bRg (l : List XI) : KE := fun call E _ T H => toN (ops call E l T H)
def bRgd (a : Nat) (l : List (XI × Role)) : KE := fun call E _ T H => match runD call E H.next l ⟨T, ⟨H.t, H.next.plus a⟩, 0, [(0, ⟨H.t, H.next.plus a⟩)], []⟩ with
    | some s => some (.normal, s.T, s.H)
    | none => none
def bSeq (a b : XC) (_ _ : KE) : KE := fun _ _ ih T H => seqK (ih b) (ih a T H)
def bCond (c : XO) (a b : XC) (_ _ : KE) : KE := fun _ _ ih T H => condK (ih a) (ih b) T H (opnd T c)
def bBlock (id : Nat) (b : XC) (_ : KE) : KE := fun _ _ ih T H => blockK id (ih b T H)
def bLoop (b : XC) (_ : KE) : KE := fun _ _ ih T H => seqK (ih (.loop b)) (ih b T H)
def bExit (id : Nat) : KE := fun _ _ _ T H => some (.exit id, T, H)
def bRet : KE := fun _ _ _ T H => some (.ret, T, H)
def code (x : XC) : KE := XC.rec (motive := fun _ => KE) bSkip bRg bRgd bSeq bCond bBlock bLoop bExit bRet x
def bodyS (call : CallF) (E : Env) (_ : Nat) (ih : KB) : KB := fun x T H => code x call E ih T H
def body (call : CallF) (E : Env) (n : Nat) : KB := Nat.rec (motive := fun _ => KB) (fun _ _ _ => none) (bodyS call E) n

def argsT (l : List AV) : Pos → Tm → Tm := List.rec (motive := fun _ => Pos → Tm → Tm) (fun _ T => T) (fun v _ ih p T => ih p.succ (T.put p (some v))) l
def outK (G : List (Nat × List AV)) (rs : List XR) (r : RB) : R := match r with
  | some (.exit _, _, _) => none
  | some (_, T', H') => match resA G T' H' rs with
    | some vs => some (resV vs, H')
    | none => none
  | none => none
def codeK (E : Env) (n : Nat) (ih : CallF) (args : List AV) (H : Hp) (x : Option XF) : R := Option.rec none (fun x => outK E.globals x.results (body ih E n x.body (argsT args .h .lf) H)) x
def sumK (E : Env) (n : Nat) (ih : CallF) (f : Pos) (args : List AV) (H : Hp) (x : Option (List AV → Hp → R)) : R := Option.rec (codeK E n ih args H (E.code.get f)) (fun F => F args H) x
def callS (E : Env) (n : Nat) (ih : CallF) : CallF := fun f args H => sumK E n ih f args H (E.sums.get f)
def callN (E : Env) (n : Nat) : CallF := Nat.rec (motive := fun _ => CallF) (fun _ _ _ => none) (callS E) n
end

-- it is the same
theorem opnd_eq (T : Tm) (x : XO) : opnd T x = Ev.opnd T x := by
  cases x with
  | t p => simp only [opnd, orU, Ev.opnd]; cases T.get p <;> rfl
  | c v => rfl
theorem opnds_eq (T : Tm) : ∀ l, opnds T l = Ev.opnds T l
  | [] => rfl
  | x :: l => by
    show opnd T x :: opnds T l = _
    rw [opnd_eq, opnds_eq T l]; rfl
theorem set_eq (T : Tm) (d : Option Pos) (v : AV) : set T d v = T.set d v := by cases d <;> rfl

theorem op_eq (call : CallF) (E : Env) (T : Tm) (H : Hp) (p : XP) : op p call E T H = evalOp call E T H p := by
  cases p with
  | mv x => simp only [op, oMv, opnd_eq, evalOp, kindOf, evalV]
  | pick c a b =>
    simp only [op, oPick, opnd_eq, evalOp, kindOf, evalV]
    cases Ev.opnd T c <;> try rfl
    rename_i b; cases b <;> rfl
  | ne x =>
    simp only [op, oNe, opnd_eq, evalOp, kindOf, evalV]
    cases Ev.opnd T x <;> rfl
  | ld x =>
    simp only [op, oLd, opnd_eq, evalOp, kindOf, evalV]
    cases Ev.opnd T x <;> try rfl
    · rename_i i a
      simp only [asPG, atBlock, cellsAt]
      cases H.t.get i with
      | none => rfl
      | some o =>
        cases o with
        | cells cs => simp only [atObj, lift]; cases at? cs a <;> rfl
        | mp => rfl
        | gh k m c =>
          simp only [atObj, lift]
          cases Nat.beq k 1 with
          | false => rfl
          | true => simp only []; cases at? (m.flatMap (rowCells (layOf c))) a <;> rfl
        | ro m c => simp only [atObj, lift]; cases at? (m.flatMap (rowCells (layOf c))) a <;> rfl
    · rename_i g a
      simp only [asPG, cellsAt]
      cases gfind g E.globals with
      | none => rfl
      | some cs => simp only [lift]; cases at? cs a <;> rfl
  | ldn x n =>
    simp only [op, oLdn, opnd_eq, evalOp, kindOf, evalV]
    cases Ev.opnd T x <;> try rfl
    · rename_i i a
      simp only [asPG, cutBlock, cellsAt]
      cases H.t.get i with
      | none => rfl
      | some o =>
        cases o with
        | cells cs => simp only [cutObj, cutL]; cases cut cs a n <;> rfl
        | mp => rfl
        | gh k m c =>
          simp only [cutObj, cutL]
          cases Nat.beq k 1 with
          | false => rfl
          | true => simp only []; cases cut (m.flatMap (rowCells (layOf c))) a n <;> rfl
        | ro m c => simp only [cutObj, cutL]; cases cut (m.flatMap (rowCells (layOf c))) a n <;> rfl
    · rename_i g a
      simp only [asPG, cellsAt]
      cases gfind g E.globals with
      | none => rfl
      | some cs => simp only [cutL]; cases cut cs a n <;> rfl
  | fa x off =>
    simp only [op, oFa, opnd_eq, evalOp, kindOf, evalV]
    cases Ev.opnd T x <;> rfl
  | bin o x y =>
    simp only [op, oBin, opnd_eq, evalOp, kindOf, evalV, lift]
    cases binV o (Ev.opnd T x) (Ev.opnd T y) <;> rfl
  | ex x n =>
    simp only [op, oEx, opnd_eq, evalOp, kindOf, evalV, lift]
    cases Ev.opnd T x <;> try rfl
    rename_i vs; dsimp only; cases at? vs n <;> rfl
  | not x =>
    simp only [op, oNot, opnd_eq, evalOp, kindOf, evalV]
    cases Ev.opnd T x <;> rfl
  | al cs => rfl
  | bx x =>
    simp only [op, oBx, opnd_eq, evalOp, kindOf, evalA]
    cases (Ev.opnd T x).known <;> rfl
  | cs f args => simp only [op, oCs, opnds_eq, evalOp, kindOf, evalC]
  | st a x n =>
    simp only [op, oSt, opnd_eq, evalOp, kindOf, evalW, stK]
    cases Nat.beq (Ev.opnd T x).cells.length n with
    | false => rfl
    | true => dsimp only; cases storeA H (Ev.opnd T a) (Ev.opnd T x).cells <;> rfl
  | _ => rfl

theorem ops_eq (call : CallF) (E : Env) : ∀ (l : List XI) (T : Tm) (H : Hp), ops call E l T H = Ev.ops call E l T H
  | [], _, _ => rfl
  | ⟨d, g, p⟩ :: l, T, H => by
    have hw : wantT call E d p (ops call E l) T H = match evalOp call E T H p with
      | some (v, H') => Ev.ops call E l (T.set d v) H'
      | none => none := by
      simp only [wantT, opsDone, op_eq]
      cases evalOp call E T H p with
      | none => rfl
      | some x => obtain ⟨v, H'⟩ := x; dsimp only; rw [set_eq, ops_eq call E l]
    show opsGo call E d p (ops call E l) T H g = _
    cases g with
    | none =>
      simp only [opsGo, Ev.ops, wantedA]
      exact hw
    | some x =>
      simp only [opsGo, Ev.ops]
      cases hwa : wantedA T (some x) with
      | none => rfl
      | some b =>
        cases b
        · simp only [wantG]; rw [set_eq, ops_eq call E l]
        · simp only [wantG]; exact hw

theorem stepD_eq (call : CallF) (E : Env) (base : Pos) (x : XI × Role) (s : SD) : stepD call E base x s = Ev.stepD call E base x s := by
  unfold stepD
  split
  · rename_i h1 h2
    unfold Ev.stepD
    rw [h1, h2]
    simp only [stepHeavy, op_eq]
    cases evalOp call E s.T s.H x.1.op with
    | none => rfl
    | some y => obtain ⟨v, H'⟩ := y; simp only [set_eq]; rfl
  · rfl
theorem runD_eq (call : CallF) (E : Env) (base : Pos) : ∀ (l : List (XI × Role)) (s : SD), runD call E base l s = Ev.runD call E base l s
  | [], _ => rfl
  | x :: l, s => by
    simp only [runD, Ev.runD, stepD_eq]
    cases Ev.stepD call E base x s with
    | none => rfl
    | some s' => exact runD_eq call E base l s'

theorem seqK_eq (k : Tm → Hp → RB) (r : RB) : seqK k r = match r with
    | some (.normal, T', H') => k T' H'
    | r => r := by
  match r with
  | none => rfl
  | some (.normal, T, H) => rfl
  | some (.exit id, T, H) => rfl
  | some (.ret, T, H) => rfl

theorem body_eq (call : CallF) (E : Env) : ∀ (n : Nat) (x : XC) (T : Tm) (H : Hp), body call E n x T H = Ev.body call E n x T H
  | 0, _, _, _ => rfl
  | n + 1, x, T, H => by
    have ih := body_eq call E n
    show code x call E (body call E n) T H = _
    cases x with
    | skip => rfl
    | rg l =>
      simp only [code, bRg, Ev.body, ops_eq, toN]
      cases Ev.ops call E l T H with
      | none => rfl
      | some x => rfl
    | rgd a l => simp only [code, bRgd, Ev.body, runD_eq]; rfl
    | seq a b => simp only [code, bSeq, Ev.body, seqK_eq, ih]; rfl
    | cond c a b =>
      simp only [code, bCond, Ev.body, condK, ih, opnd_eq]; rfl
    | block id b => simp only [code, bBlock, Ev.body, blockK, ih]; rfl
    | loop b => simp only [code, bLoop, Ev.body, seqK_eq, ih]; rfl
    | exit id => rfl
    | ret => rfl

theorem argsT_eq : ∀ (l : List AV) (p : Pos) (T : Tm), argsT l p T = Ev.argsT l p T
  | [], _, _ => rfl
  | v :: l, p, T => argsT_eq l p.succ (T.put p (some v))

theorem callN_eq (E : Env) : ∀ n, callN E n = Ev.callN E n
  | 0 => rfl
  | n + 1 => by
    funext f args H
    show callS E n (callN E n) f args H = _
    simp only [callS, sumK, Ev.callN, callN_eq E n]
    cases E.sums.get f with
    | some F => rfl
    | none =>
      simp only [codeK]
      cases E.code.get f with
      | none => rfl
      | some x => simp only [outK, body_eq, argsT_eq]; rfl
end Go.Ev.F
