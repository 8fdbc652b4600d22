/-
A run by a script: at marked places a value is given; what must hold for that is told as a list.
-/
import Derived.Test.YtipkbcnibhnjdabGreatDoorEvJI
set_option linter.unusedVariables false
set_option linter.unusedSimpArgs false
namespace Go.Ev

/-- What a script gives at a marked place. -/
inductive Sc where
  | val (w : AV)
  | idx (m : Nat)
  | row (q j : Nat)
  | find (r : Option (Nat × AV × AV × Nat))
  | stamp (j : Nat) (k : AV) (b : Nat)
  | cmp (r : Bool)
  | lay (cs : List AV)
  | app (old : List AV)
  | cut (l : List AV)
/-- What must hold. -/
inductive Ob where
  | av (a b : AV)
  | nat (a b : Nat)
  | lt (a b : Nat)
  | key (d : EQ) (k : AV)
  | flat (a b : AV)
  | find (d : EQ) (k : AV) (es : List (AV × AV × Nat)) (r : Option (Nat × AV × AV × Nat))
  | stamp (n : Int) (es : List (AV × AV × Nat)) (j : Nat) (k : AV) (b : Nat)
  | cmp (d : EQ) (a b : AV) (r : Bool)
  | lay (cs : List AV) (off : Nat) (vs cs' : List AV)
  | cut (cs : List AV) (off n : Nat) (l : List AV)
  | le (a b : Nat)
def Ob.holds : Ob → Prop
  | .av a b => a = b
  | .nat a b => a = b
  | .lt a b => a < b
  | .key d k => keyOk d k = true
  | .flat a b => flatSame a b = true
  | .find d k es r => findA d k es 0 = some r
  | .stamp n es j k b => stampA n es 0 = some (j, k, b)
  | .cmp d a b r => eqV d a b = some r
  | .lay cs off vs cs' => Ev.lay cs off vs = some cs'
  | .cut cs off n l => Ev.cut cs off n = some l
  | .le a b => a ≤ b
structure Z where
  sc : List Sc
  ob : List Ob
  rd : List (AV × AV)
def allOb : List Ob → Prop
  | [] => True
  | o :: l => o.holds ∧ allOb l
def allRd : List (AV × AV) → Prop
  | [] => True
  | x :: l => x.1 = x.2 ∧ allRd l
def Z.Good (z : Z) : Prop := allOb z.ob ∧ allRd z.rd

def memP (p : Pos) : List Pos → Bool
  | [] => false
  | q :: l => p.same q || memP p l
/-- is it marked? -/
def markB (ms : List Pos) : Option Pos → Bool
  | some p => memP p ms
  | none => false
/-- a store by a stamp, and the script has one -/
def esS : XP → List Sc → Bool
  | .es .., .stamp .. :: _ => true
  | .st .., .lay _ :: _ => true
  | _, _ => false

noncomputable section
variable (G : List (Nat × List AV))
def rowV (H : Hp) (q j : Nat) (a : AV) (z : Z) (sc : List Sc) (take : List AV → Option AV) : Option (AV × Z) :=
  match a with
  | .ptr i off => match H.t.get i with
    | some (.gh k m c) => match Nat.beq k 1 with
      | true => match take (rowCells (layOf c) (m.getD q [])) with
        | some w => some (w, ⟨sc, .lt q m.length :: .nat off (q * (layOf c).length + j) :: z.ob, z.rd⟩)
        | none => none
      | false => none
    | some (.ro m c) => match take (rowCells (layOf c) (m.getD q [])) with
      | some w => some (w, ⟨sc, .lt q m.length :: .nat off (q * (layOf c).length + j) :: z.ob, z.rd⟩)
      | none => none
    | _ => none
  | _ => none
def idxV (m : Nat) (sz : Nat) (x i : AV) (z : Z) (sc : List Sc) : Option (AV × Z) :=
  match x, i with
  | .slc b off len _ _, .int k n => some (.ptr b (off + m * sz), ⟨sc, .lt m len :: .av (.int k n) (.int k (.ofNat m)) :: z.ob, z.rd⟩)
  | _, _ => none
def findV (H : Hp) (d : EQ) (zero : AV) (x k : AV) (ok : Bool) (r : Option (Nat × AV × AV × Nat)) (z : Z) (sc : List Sc) : Option (AV × Z) :=
  match x with
  | .map i => match H.t.get i with
    | some (.mp es _) => some ((match r with
        | none => (match ok with | true => .tup [zero, .bool false] | false => zero)
        | some (_, _, v, _) => (match ok with | true => .tup [v, .bool true] | false => v)), ⟨sc, .find d k es r :: .key d k :: z.ob, z.rd⟩)
    | _ => none
  | _ => none
def valS (T : Tm) (H : Hp) (p : XP) (z : Z) : Option (AV × Z) :=
  match z.sc with
  | [] => none
  | .val w :: sc => match evalV G T H p with
    | some v => some (w, ⟨sc, .av v w :: z.ob, z.rd⟩)
    | none => none
  | .idx m :: sc => match p with
    | .ia sz x i => idxV m sz (opnd T x) (opnd T i) z sc
    | _ => none
  | .row q j :: sc => match p with
    | .ld x => rowV H q j (opnd T x) z sc (fun cs => at? cs j)
    | .ldn x n => rowV H q j (opnd T x) z sc (fun cs => match cut cs j n with | some l => some (.agg l) | none => none)
    | _ => none
  | .find r :: sc => match p with
    | .lk d zero x k ok => findV H d zero (opnd T x) (opnd T k) ok r z sc
    | _ => none
  | .cmp r :: sc => match p with
    | .eqv neg d x y => some (.bool (xor neg r), ⟨sc, .cmp d (opnd T x) (opnd T y) r :: z.ob, z.rd⟩)
    | _ => none
  | .cut l :: sc => match p with
    | .ldn x n => match opnd T x with
      | .ptr i off => match H.t.get i with
        | some (.cells cs) => some (.agg l, ⟨sc, .cut cs off n l :: z.ob, z.rd⟩)
        | _ => none
      | _ => none
    | _ => none
  | _ :: _ => none
end

noncomputable def effS (T : Tm) (H : Hp) (p : XP) (z : Z) : Option (AV × Hp × Z) :=
  match z.sc, p with
  | .find r :: sc, .me d zero m k => match opnd T m with
    | .map i => match H.t.get i with
      | some (.mp es clock) => match r with
        | none => some (.tup [zero, .int .i64 (.ofNat clock)], H.set i (.mp (es ++ [(opnd T k, zero, clock)]) (clock + 1)), ⟨sc, .find d (opnd T k) es none :: .key d (opnd T k) :: z.ob, z.rd⟩)
        | some (j, k', v, b) => some (.tup [v, .int .i64 (.ofNat b)], H.set i (.mp (es.set j (opnd T k, v, b)) clock), ⟨sc, .flat k' (opnd T k) :: .find d (opnd T k) es (some (j, k', v, b)) :: .key d (opnd T k) :: z.ob, z.rd⟩)
      | _ => none
    | _ => none
  | .find r :: sc, .mu d m k v => match opnd T m with
    | .map i => match H.t.get i with
      | some (.mp es clock) => match r with
        | none => some (.tup [], H.set i (.mp (es ++ [(opnd T k, opnd T v, clock)]) (clock + 1)), ⟨sc, .find d (opnd T k) es none :: .key d (opnd T k) :: z.ob, z.rd⟩)
        | some (j, k', w, b) => some (.tup [], H.set i (.mp (es.set j (opnd T k, opnd T v, b)) clock), ⟨sc, .flat k' (opnd T k) :: .find d (opnd T k) es (some (j, k', w, b)) :: .key d (opnd T k) :: z.ob, z.rd⟩)
      | _ => none
    | _ => none
  | .stamp j k b :: sc, .es m s v => match opnd T m, opnd T s with
    | .map i, .int _ n => match H.t.get i with
      | some (.mp es clock) => some (.tup [], H.set i (.mp (es.set j (k, opnd T v, b)) clock), ⟨sc, .stamp n es j k b :: z.ob, z.rd⟩)
      | _ => none
    | _, _ => none
  | .lay cs' :: sc, .st a x n => match Nat.beq (opnd T x).cells.length n && allOne (opnd T x).cells with
    | true => match opnd T a with
      | .ptr i off => match H.t.get i with
        | some (.cells cs) => some (.tup [], H.set i (.cells cs'), ⟨sc, .lay cs off (opnd T x).cells cs' :: z.ob, z.rd⟩)
        | _ => none
      | _ => none
    | false => none
  | .app old :: sc, .app sz bytes _ s x => match sliceCells H sz (opnd T x), opnd T s with
    | some (xs, n + 1), .slc i off (len + 1) none sz' => match Nat.beq sz sz' && allOne xs with
      | true => match H.t.get i with
        | some (.cells cs) => some (.slc H.next 0 (len + 1 + (n + 1)) none sz, (H.drop i).add (.cells (old ++ xs)), ⟨sc, .le (len + 1 + (n + 1)) 4611686018427387904 :: .le ((len + 1 + (n + 1)) * bytes) 140737488355328 :: .cut cs off ((len + 1) * sz) old :: z.ob, z.rd⟩)
        | _ => none
      | false => none
    | _, _ => none
  | _, _ => none

abbrev CallS := Pos → List AV → Hp → Z → Option (AV × Hp × Z)
noncomputable section
def noCall : CallF := fun _ _ _ => none
def plainS (E : Env) (T : Tm) (H : Hp) (p : XP) (z : Z) : Option (AV × Hp × Z) :=
  match F.op p noCall E T H with
  | some (v, H') => some (v, H', z)
  | none => none
def opS (call : CallS) (E : Env) (T : Tm) (H : Hp) (mk : Bool) (p : XP) (z : Z) : Option (AV × Hp × Z) :=
  match mk with
  | false => match Nat.beq (kindOf p) 3 with
    | false => plainS E T H p z
    | true => match evalC E T p with
      | some (f, args) => call f args H z
      | none => none
  | true => match kindOf p with
    | 0 => match valS E.globals T H p z with
      | some (v, z') => some (v, H, z')
      | none => none
    | 1 => none
    | 2 => effS T H p z
    | _ => match evalC E T p with
      | some (f, args) => match call f args H z with
        | some (v, H', ⟨.val w :: sc, ob, rd⟩) => some (w, H', ⟨sc, .av v w :: ob, rd⟩)
        | _ => none
      | none => none
def opsS (call : CallS) (E : Env) (ms : List Pos) : List XI → Tm → Hp → Z → Option (Tm × Hp × Z)
  | [], T, H, z => some (T, H, z)
  | x :: l, T, H, z =>
    match wantedA T x.guard with
    | some true => match opS call E T H (markB ms x.dst || esS x.op z.sc) x.op z with
      | some (v, H', z') => opsS call E ms l (T.set x.dst v) H' z'
      | none => none
    | some false => opsS call E ms l (T.set x.dst AV.undef) H z
    | none => none

/-- reads that are looked at again -/
def sameS (G : List (Nat × List AV)) (T : Tm) (p : XP) (v : AV) (rd : List (AV × AV)) : List Hp → Option (List (AV × AV))
  | [] => some rd
  | H :: l => match evalV G T H p with
    | some u => sameS G T p v ((v, u) :: rd) l
    | none => none
def checkS (G : List (Nat × List AV)) (k : Nat) (H : Hp) (rd : List (AV × AV)) : List (XP × Tm × AV × Nat × Nat) → Option (List (AV × AV))
  | [] => some rd
  | (p, T, v, lo, hi) :: l =>
    match Nat.ble lo k && Nat.ble k hi with
    | true => match evalV G T H p with
      | some u => checkS G k H ((v, u) :: rd) l
      | none => none
    | false => checkS G k H rd l

def stepS (call : CallS) (E : Env) (ms : List Pos) (base : Pos) (x : XI × Role) (s : SD) (z : Z) : Option (SD × Z) :=
  match wantedA s.T x.1.guard with
  | none => none
  | some false => match x.2 with
    | .heavy => match checkS E.globals (s.k + 1) s.H z.rd s.rs with
      | some rd => some (⟨s.T.set x.1.dst AV.undef, s.H, s.k + 1, (s.k + 1, s.H) :: s.hs, s.rs⟩, ⟨z.sc, z.ob, rd⟩)
      | none => none
    | _ => some (⟨s.T.set x.1.dst AV.undef, s.H, s.k, s.hs, s.rs⟩, z)
  | some true =>
    match x.2 with
    | .pure => match markB ms x.1.dst with
      | false => match evalV E.globals s.T Hp.empty x.1.op with
        | some v => some (⟨s.T.set x.1.dst v, s.H, s.k, s.hs, s.rs⟩, z)
        | none => none
      | true => match valS E.globals s.T Hp.empty x.1.op z with
        | some (v, z') => some (⟨s.T.set x.1.dst v, s.H, s.k, s.hs, s.rs⟩, z')
        | none => none
    | .read lo hi =>
      match s.hs with
      | (k, V) :: hs => match markB ms x.1.dst with
        | false => match evalV E.globals s.T V x.1.op with
          | some v => match sameS E.globals s.T x.1.op v z.rd (match Nat.ble lo k with | true => heapsIn lo hs | false => []) with
            | some rd => some (⟨s.T.set x.1.dst v, s.H, s.k, s.hs, (x.1.op, s.T, v, lo, hi) :: s.rs⟩, ⟨z.sc, z.ob, rd⟩)
            | none => none
          | none => none
        | true => match valS E.globals s.T V x.1.op z with
          | some (v, z') => match sameS E.globals s.T x.1.op v z'.rd (match Nat.ble lo k with | true => heapsIn lo hs | false => []) with
            | some rd => some (⟨s.T.set x.1.dst v, s.H, s.k, s.hs, (x.1.op, s.T, v, lo, hi) :: s.rs⟩, ⟨z'.sc, z'.ob, rd⟩)
            | none => none
          | none => none
      | [] => none
    | .alloc n => match evalA s.T x.1.op with
      | some (o, b) => some (⟨s.T.set x.1.dst (b.of (base.plus n)), ⟨s.H.t.put (base.plus n) (some o), s.H.next⟩, s.k, s.hs, s.rs⟩, z)
      | none => none
    | .heavy => match opS call E s.T s.H (markB ms x.1.dst || esS x.1.op z.sc) x.1.op z with
      | some (v, H', z') => match checkS E.globals (s.k + 1) H' z'.rd s.rs with
        | some rd => some (⟨s.T.set x.1.dst v, H', s.k + 1, (s.k + 1, H') :: s.hs, s.rs⟩, ⟨z'.sc, z'.ob, rd⟩)
        | none => none
      | none => none
def runS (call : CallS) (E : Env) (ms : List Pos) (base : Pos) : List (XI × Role) → SD → Z → Option (SD × Z)
  | [], s, z => some (s, z)
  | x :: l, s, z => match stepS call E ms base x s z with
    | some (s', z') => runS call E ms base l s' z'
    | none => none
def bodyS (call : CallS) (E : Env) (ms : List Pos) : Nat → XC → Tm → Hp → Z → Option (Ex × Tm × Hp × Z)
  | 0, _, _, _, _ => none
  | _ + 1, .skip, T, H, z => some (.normal, T, H, z)
  | _ + 1, .rg l, T, H, z => match opsS call E ms l T H z with
    | some (T', H', z') => some (.normal, T', H', z')
    | none => none
  | _ + 1, .rgd a l, T, H, z => match runS call E ms H.next l ⟨T, ⟨H.t, H.next.plus a⟩, 0, [(0, ⟨H.t, H.next.plus a⟩)], []⟩ z with
    | some (s, z') => some (.normal, s.T, s.H, z')
    | none => none
  | n + 1, .seq a b, T, H, z => match bodyS call E ms n a T H z with
    | some (.normal, T', H', z') => bodyS call E ms n b T' H' z'
    | r => r
  | n + 1, .cond c a b, T, H, z => match opnd T c with
    | .bool true => bodyS call E ms n a T H z
    | .bool false => bodyS call E ms n b T H z
    | _ => none
  | n + 1, .block id b, T, H, z => match bodyS call E ms n b T H z with
    | some (.exit id', T', H', z') => match Nat.beq id id' with
      | true => some (.normal, T', H', z')
      | false => some (.exit id', T', H', z')
    | r => r
  | n + 1, .loop b, T, H, z => match bodyS call E ms n b T H z with
    | some (.normal, T', H', z') => bodyS call E ms n (.loop b) T' H' z'
    | r => r
  | _ + 1, .exit id, T, H, z => some (.exit id, T, H, z)
  | _ + 1, .ret, T, H, z => some (.ret, T, H, z)
def marksOf (mk : Tr (List Pos)) (f : Pos) : List Pos := match mk.get f with
  | some l => l
  | none => []
/-- A sum that holds where what it tells holds. -/
abbrev CSum := List AV → Hp → Option (AV × Hp × List Ob)
open Classical in
def realOf (C : CSum) : List AV → Hp → Option (AV × Hp) := fun args H => match C args H with
  | some (v, H', obs) => if allOb obs then some (v, H') else none
  | none => none
def addOb : List Ob → List Ob → List Ob
  | [], l => l
  | o :: m, l => o :: addOb m l
/-- marks, and sums that hold where .. -/
structure Mk where
  mks : Tr (List Pos)
  cs : Tr CSum
def callS (E : Env) (M : Mk) : Nat → CallS
  | 0, _, _, _, _ => none
  | n + 1, f, args, H, z => match M.cs.get f with
   | some C => match C args H with
    | some (v, H', obs) => some (v, H', ⟨z.sc, addOb obs z.ob, z.rd⟩)
    | none => none
   | none => match E.sums.get f with
    | some F => match F args H with
      | some (v, H') => some (v, H', z)
      | none => none
    | none => match E.code.get f with
      | none => none
      | some x => match bodyS (callS E M n) E (marksOf M.mks f) n x.body (argsT args .h .lf) H z with
        | some (.exit _, _, _, _) => none
        | some (_, T', H', z') => match resA E.globals T' H' x.results with
          | some vs => some (resV vs, H', z')
          | none => none
        | none => none
end

-- it serves
theorem allRd_cons {x : AV × AV} {l : List (AV × AV)} (h : allRd (x :: l)) : x.1 = x.2 ∧ allRd l := h

mutual
theorem AV.same_self : ∀ a : AV, AV.same a a = true
  | .bool b => by cases b <;> rfl
  | .int k n => by
    simp only [AV.same, Bool.and_eq_true]
    refine ⟨by simp, ?_⟩
    cases n <;> simp [eqI]
  | .str s => by simp only [AV.same]; induction s with
    | nil => rfl
    | cons a l ih => simp [strEq, ih]
  | .ptr i a => by simp [AV.same, Pos.same_self]
  | .gp i a => by simp [AV.same]
  | .nilp => rfl
  | .slc i a b c d => by cases c <;> simp [AV.same, Pos.same_self]
  | .nils => rfl
  | .map i => by simp [AV.same, Pos.same_self]
  | .nilm => rfl
  | .fn f a b => by simp [AV.same, Pos.same_self, AV.sames_self a, AV.sames_self b]
  | .nilf => rfl
  | .ifc t v => by simp [AV.same, AV.same_self v]
  | .nili => rfl
  | .agg a => by simp [AV.same, AV.sames_self a]
  | .tup a => by simp [AV.same, AV.sames_self a]
  | .any => rfl
theorem AV.sames_self : ∀ l : List AV, AV.sames l l = true
  | [] => rfl
  | a :: l => by simp [AV.sames, AV.same_self a, AV.sames_self l]
end

theorem rowFrom_length : ∀ (L : List (Option IntKind)) (r : List Int) (j : Nat), (rowFrom L r j).length = L.length
  | [], _, _ => rfl
  | c :: L, r, j => by simp [rowFrom, rowFrom_length L]
theorem rowCells_length (L : List (Option IntKind)) (r : List Int) : (rowCells L r).length = L.length := rowFrom_length L r 0
theorem flat_get {α : Type} {w : Nat} {f : α → List AV} (hf : ∀ r, (f r).length = w) : ∀ {m : List α} {q j : Nat} {r : α}, m[q]? = some r → j < w → (m.flatMap f)[q * w + j]? = (f r)[j]?
  | [], q, j, r, h, _ => by simp at h
  | r :: m, 0, j, r', h, hj => by
    simp at h
    subst h
    simp only [List.flatMap_cons, Nat.zero_mul, Nat.zero_add]
    rw [List.getElem?_append_left (by rw [hf]; exact hj)]
  | r :: m, q + 1, j, r', h, hj => by
    simp at h
    simp only [List.flatMap_cons]
    have e : (q + 1) * w + j = w + (q * w + j) := by rw [Nat.add_mul]; omega
    rw [e, List.getElem?_append_right (by rw [hf]; omega), hf]
    have e2 : w + (q * w + j) - w = q * w + j := by omega
    rw [e2]
    exact flat_get hf h hj
theorem flat_length {α : Type} {w : Nat} {f : α → List AV} (hf : ∀ r, (f r).length = w) : ∀ (m : List α), (m.flatMap f).length = m.length * w
  | [] => by simp
  | r :: m => by simp only [List.flatMap_cons, List.length_append, hf, flat_length hf m, List.length_cons, Nat.add_mul]; omega
theorem cut_of : ∀ {cs : List AV} {off n : Nat}, off + n ≤ cs.length → cut cs off n = some ((cs.drop off).take n)
  | cs, 0, 0, _ => by simp [cut]
  | c :: cs, 0, n + 1, h => by
    simp only [List.length_cons] at h
    simp only [cut, cut_of (cs := cs) (off := 0) (n := n) (by omega)]
    simp
  | c :: cs, off + 1, n, h => by
    simp only [List.length_cons] at h
    cases n with
    | zero => simp only [cut, cut_of (cs := cs) (off := off) (n := 0) (by omega)]; simp
    | succ n => simp only [cut, cut_of (cs := cs) (off := off) (n := n + 1) (by omega)]; simp
  | [], 0, n + 1, h => by simp at h
  | [], off + 1, n, h => by simp at h

theorem getD_of {m : List (List Int)} {q : Nat} (h : q < m.length) : m[q]? = some (m.getD q []) := by
  rw [List.getD_eq_getElem?_getD, List.getElem?_eq_getElem h]; rfl
theorem row_at {m : List (List Int)} {c q j : Nat} {w : AV} (h : q < m.length) (hw : at? (rowCells (layOf c) (m.getD q [])) j = some w) : at? (m.flatMap (rowCells (layOf c))) (q * (layOf c).length + j) = some w := by
  rw [at?_eq] at hw ⊢
  have hj : j < (layOf c).length := by
    have := (List.getElem?_eq_some_iff.1 hw).1
    rwa [rowCells_length] at this
  rw [flat_get (rowCells_length _) (getD_of h) hj]
  exact hw
theorem row_cut {m : List (List Int)} {c q j n : Nat} {l : List AV} (h : q < m.length) (hw : cut (rowCells (layOf c) (m.getD q [])) j n = some l) : cut (m.flatMap (rowCells (layOf c))) (q * (layOf c).length + j) n = some l := by
  obtain ⟨h1, rfl⟩ := cut_eq hw
  rw [rowCells_length] at h1
  have hlen := flat_length (rowCells_length (layOf c)) m
  have hle : q * (layOf c).length + (layOf c).length ≤ m.length * (layOf c).length := by
    have := Nat.mul_le_mul_right (layOf c).length (show q + 1 ≤ m.length from h)
    rwa [Nat.add_mul, Nat.one_mul] at this
  rw [cut_of (by omega)]
  congr 1
  apply List.ext_getElem?
  intro i
  simp only [List.getElem?_take, List.getElem?_drop]
  split
  · have e : q * (layOf c).length + j + i = q * (layOf c).length + (j + i) := by omega
    rw [e, flat_get (rowCells_length _) (getD_of h) (by omega)]
  · rfl

section
variable {G : List (Nat × List AV)} {T : Tm} {H H' : Hp} {p : XP} {v : AV} {z z' : Z}
theorem rowV_ok {q j : Nat} {a : AV} {sc : List Sc} {take : List AV → Option AV} (h : rowV H q j a z sc take = some (v, z')) (hg : z'.Good) :
    z.Good ∧ ∃ i k m c, a = .ptr i k ∧ (H.t.get i = some (.gh 1 m c) ∨ H.t.get i = some (.ro m c)) ∧ take (rowCells (layOf c) (m.getD q [])) = some v ∧ q < m.length ∧ k = q * (layOf c).length + j := by
  unfold rowV at h
  split at h
  · split at h
    · rename_i k m c hget
      split at h
      · rename_i hk
        have hk := Nat.eq_of_beq_eq_true hk
        subst hk
        split at h
        · rename_i w hw
          cases h
          obtain ⟨⟨h1, h2, h3⟩, h4⟩ := hg
          exact ⟨⟨h3, h4⟩, _, _, _, _, rfl, .inl hget, hw, h1, h2⟩
        · cases h
      · cases h
    · rename_i m c hget
      split at h
      · rename_i w hw
        cases h
        obtain ⟨⟨h1, h2, h3⟩, h4⟩ := hg
        exact ⟨⟨h3, h4⟩, _, _, _, _, rfl, .inr hget, hw, h1, h2⟩
      · cases h
    · cases h
  · cases h
theorem valS_ok (h : valS G T H p z = some (v, z')) (hg : z'.Good) : z.Good ∧ evalV G T H p = some v := by
  unfold valS at h
  split at h
  · cases h
  · split at h
    · rename_i u hu
      cases h
      obtain ⟨⟨h1, h2⟩, h3⟩ := hg
      have h1 : u = v := h1
      subst h1
      exact ⟨⟨h2, h3⟩, hu⟩
    · cases h
  · split at h
    · unfold idxV at h
      split at h
      · rename_i e1 e2
        cases h
        obtain ⟨⟨h1, h2, h3⟩, h4⟩ := hg
        refine ⟨⟨h3, h4⟩, ?_⟩
        have h2 : AV.int _ _ = AV.int _ _ := h2
        injection h2 with _ h2
        have h1 : _ < _ := h1
        subst h2
        simp only [evalV, e1, e2, natOf]
        rw [show Nat.ble (_ + 1) _ = true from Nat.ble_eq ▸ (show _ + 1 ≤ _ from h1)]
      · cases h
    · cases h
  · split at h
    · obtain ⟨h1, i, k, m, c, e1, e2, e3, e4, e5⟩ := rowV_ok h hg
      refine ⟨h1, ?_⟩
      subst e5
      rcases e2 with e2 | e2
      · simp only [evalV, e1, cellsAt, e2]
        exact row_at e4 e3
      · simp only [evalV, e1, cellsAt, e2]
        exact row_at e4 e3
    · obtain ⟨h1, i, k, m, c, e1, e2, e3, e4, e5⟩ := rowV_ok h hg
      refine ⟨h1, ?_⟩
      subst e5
      split at e3
      · rename_i l hl
        cases e3
        rcases e2 with e2 | e2
        · simp only [evalV, e1, cellsAt, e2]
          show (match cut _ _ _ with | some l => some (AV.agg l) | none => none) = _
          rw [row_cut e4 hl]
        · simp only [evalV, e1, cellsAt, e2]
          show (match cut _ _ _ with | some l => some (AV.agg l) | none => none) = _
          rw [row_cut e4 hl]
      · cases e3
    · cases h
  · rename_i r sc heq
    split at h
    · unfold findV at h
      split at h
      · rename_i i e1
        split at h
        · rename_i es clock e2
          cases h
          obtain ⟨⟨h1, h2, h3⟩, h4⟩ := hg
          refine ⟨⟨h3, h4⟩, ?_⟩
          have h1 : findA _ _ _ 0 = some _ := h1
          have h2 : keyOk _ _ = true := h2
          simp only [evalV, h2, e1, e2, h1]
          cases r <;> rfl
        · cases h
      · cases h
    · cases h
  · split at h
    · cases h
      obtain ⟨⟨h1, h3⟩, h4⟩ := hg
      have h1 : eqV _ _ _ = some _ := h1
      exact ⟨⟨h3, h4⟩, by simp only [evalV, h1]⟩
    · cases h
  · split at h
    · split at h
      · rename_i e1
        split at h
        · rename_i e2
          cases h
          obtain ⟨⟨h1, h3⟩, h4⟩ := hg
          have h1 : Ev.cut _ _ _ = some _ := h1
          exact ⟨⟨h3, h4⟩, by simp only [evalV, e1, cellsAt, e2, h1]⟩
        · cases h
      · cases h
    · cases h
  · cases h

theorem effS_ok (h : effS T H p z = some (v, H', z')) (hg : z'.Good) : z.Good ∧ evalW T H p = some (v, H') := by
  unfold effS at h
  split at h
  · split at h
    · rename_i e1
      split at h
      · rename_i e2
        split at h
        · cases h
          obtain ⟨⟨h1, h2, h3⟩, h4⟩ := hg
          have h1 : findA _ _ _ 0 = some _ := h1
          have h2 : keyOk _ _ = true := h2
          refine ⟨⟨h3, h4⟩, ?_⟩
          simp only [evalW, h2, e1, e2, h1]
        · cases h
          obtain ⟨⟨h0, h1, h2, h3⟩, h4⟩ := hg
          have h0 : flatSame _ _ = true := h0
          have h1 : findA _ _ _ 0 = some _ := h1
          have h2 : keyOk _ _ = true := h2
          refine ⟨⟨h3, h4⟩, ?_⟩
          simp only [evalW, h2, e1, e2, h1, h0]
      · cases h
    · cases h
  · split at h
    · rename_i e1
      split at h
      · rename_i e2
        split at h
        · cases h
          obtain ⟨⟨h1, h2, h3⟩, h4⟩ := hg
          have h1 : findA _ _ _ 0 = some _ := h1
          have h2 : keyOk _ _ = true := h2
          refine ⟨⟨h3, h4⟩, ?_⟩
          simp only [evalW, h2, e1, e2, h1]
        · cases h
          obtain ⟨⟨h0, h1, h2, h3⟩, h4⟩ := hg
          have h0 : flatSame _ _ = true := h0
          have h1 : findA _ _ _ 0 = some _ := h1
          have h2 : keyOk _ _ = true := h2
          refine ⟨⟨h3, h4⟩, ?_⟩
          simp only [evalW, h2, e1, e2, h1, h0]
      · cases h
    · cases h
  · split at h
    · rename_i e1 e2
      split at h
      · rename_i e3
        cases h
        obtain ⟨⟨h1, h3⟩, h4⟩ := hg
        have h1 : stampA _ _ 0 = some _ := h1
        refine ⟨⟨h3, h4⟩, ?_⟩
        simp only [evalW, e1, e2, e3, h1]
      · cases h
    · cases h
  · split at h
    · rename_i hc
      simp only [Bool.and_eq_true] at hc
      split at h
      · rename_i e1
        split at h
        · rename_i e2
          cases h
          obtain ⟨⟨h1, h3⟩, h4⟩ := hg
          have h1 : Ev.lay _ _ _ = some _ := h1
          refine ⟨⟨h3, h4⟩, ?_⟩
          simp only [evalW, hc.1, storeA, e1, e2, hc.2, h1]
        · cases h
      · cases h
    · cases h
  · split at h
    · rename_i e1 e2
      split at h
      · rename_i hc
        simp only [Bool.and_eq_true] at hc
        split at h
        · rename_i e3
          cases h
          obtain ⟨⟨h0, h1, h2, h3⟩, h4⟩ := hg
          have h0 : _ ≤ _ := h0
          have h1 : _ ≤ _ := h1
          have h2 : Ev.cut _ _ _ = some _ := h2
          refine ⟨⟨h3, h4⟩, ?_⟩
          have hb0 := Nat.ble_eq_true_of_le h0
          have hb1 := Nat.ble_eq_true_of_le h1
          simp only [evalW, appendA, e1, e2]
          simp only [sliceCells, e3, h2, hc.1, hc.2, hb0, hb1, Bool.and_self]
        · cases h
      · cases h
    · cases h
  · cases h

theorem evalOp_not_call {c1 c2 : CallF} {E : Env} (hk : Nat.beq (kindOf p) 3 = false) : evalOp c1 E T H p = evalOp c2 E T H p := by
  cases p <;> first | rfl | (cases (show true = false from hk))

/-- calls by a script serve -/
def ServesS (call : CallS) (real : CallF) : Prop := ∀ f args H z v H' z', call f args H z = some (v, H', z') → z'.Good → z.Good ∧ real f args H = some (v, H')

theorem opS_ok {call : CallS} {real : CallF} (hc : ServesS call real) {E : Env} {mk : Bool} (h : opS call E T H mk p z = some (v, H', z')) (hg : z'.Good) : z.Good ∧ evalOp real E T H p = some (v, H') := by
  unfold opS at h
  split at h
  · split at h
    · rename_i hk
      unfold plainS at h
      rw [F.op_eq] at h
      split at h
      · rename_i he
        cases h
        exact ⟨hg, by rw [evalOp_not_call hk] at he; exact he⟩
      · cases h
    · rename_i hk
      have hk := Nat.eq_of_beq_eq_true hk
      split at h
      · rename_i f args hf
        obtain ⟨h1, h2⟩ := hc _ _ _ _ _ _ _ h hg
        refine ⟨h1, ?_⟩
        unfold evalOp
        rw [hk]
        simp only [hf]
        exact h2
      · cases h
  · split at h
    · rename_i hk
      split at h
      · rename_i u z1 hv
        cases h
        obtain ⟨h1, h2⟩ := valS_ok hv hg
        refine ⟨h1, ?_⟩
        unfold evalOp
        rw [hk]
        simp only [h2]
      · cases h
    · cases h
    · rename_i hk
      obtain ⟨h1, h2⟩ := effS_ok h hg
      refine ⟨h1, ?_⟩
      unfold evalOp
      rw [hk]
      exact h2
    · rename_i k h0 h1 h2
      split at h
      · rename_i f args hf
        split at h
        · rename_i v0 H0 w sc ob rd hcall
          cases h
          obtain ⟨⟨g1, g2⟩, g3⟩ := hg
          obtain ⟨r1, r2⟩ := hc _ _ _ _ _ _ _ hcall ⟨g2, g3⟩
          have g1 : v0 = v := g1
          subst g1
          refine ⟨r1, ?_⟩
          unfold evalOp
          split
          · rename_i e; exact absurd e h0
          · rename_i e; exact absurd e h1
          · rename_i e; exact absurd e h2
          · simp only [hf]
            exact r2
        · cases h
      · cases h

theorem opsS_ok {call : CallS} {real : CallF} (hc : ServesS call real) {E : Env} {ms : List Pos} : ∀ {l : List XI} {T : Tm} {H : Hp} {z : Z} {T' : Tm} {H' : Hp} {z' : Z}, opsS call E ms l T H z = some (T', H', z') → z'.Good → z.Good ∧ ops real E l T H = some (T', H')
  | [], T, H, z, T', H', z', h, hg => by
    simp only [opsS] at h
    cases h
    exact ⟨hg, rfl⟩
  | x :: l, T, H, z, T', H', z', h, hg => by
    simp only [opsS] at h
    simp only [ops]
    split at h
    · rename_i hw
      rw [hw]
      split at h
      · rename_i v H1 z1 he
        obtain ⟨h1, h2⟩ := opsS_ok hc h hg
        obtain ⟨h3, h4⟩ := opS_ok hc he h1
        refine ⟨h3, ?_⟩
        simp only [h4]
        exact h2
      · cases h
    · rename_i hw
      rw [hw]
      exact opsS_ok hc h hg
    · cases h

theorem sameS_ok {p : XP} {v : AV} : ∀ {l : List Hp} {rd rd' : List (AV × AV)}, sameS G T p v rd l = some rd' → allRd rd' → allRd rd ∧ sameAt G T p v l = true
  | [], rd, rd', h, hg => by
    simp only [sameS] at h
    cases h
    exact ⟨hg, rfl⟩
  | H :: l, rd, rd', h, hg => by
    simp only [sameS] at h
    split at h
    · rename_i u hu
      obtain ⟨⟨h1, h2⟩, h3⟩ := sameS_ok h hg
      have h1 : v = u := h1
      subst h1
      exact ⟨h2, by simp only [sameAt, hu, AV.same_self, h3, Bool.and_self]⟩
    · cases h
theorem checkS_ok {k : Nat} {H : Hp} : ∀ {rs : List (XP × Tm × AV × Nat × Nat)} {rd rd' : List (AV × AV)}, checkS G k H rd rs = some rd' → allRd rd' → allRd rd ∧ checkReads G k H rs = true
  | [], rd, rd', h, hg => by
    simp only [checkS] at h
    cases h
    exact ⟨hg, rfl⟩
  | (p, T, v, lo, hi) :: l, rd, rd', h, hg => by
    simp only [checkS] at h
    simp only [checkReads]
    split at h
    · rename_i hb
      rw [hb]
      split at h
      · rename_i u hu
        obtain ⟨⟨h1, h2⟩, h3⟩ := checkS_ok h hg
        have h1 : v = u := h1
        subst h1
        exact ⟨h2, by simp only [hu, AV.same_self, h3, Bool.and_self]⟩
      · cases h
    · rename_i hb
      rw [hb]
      obtain ⟨h1, h2⟩ := checkS_ok h hg
      exact ⟨h1, by simp only [h2, Bool.and_self]⟩

theorem stepS_ok {call : CallS} {real : CallF} (hc : ServesS call real) {E : Env} {ms : List Pos} {base : Pos} {x : XI × Role} {s s' : SD} {z z' : Z} (h : stepS call E ms base x s z = some (s', z')) (hg : z'.Good) : z.Good ∧ stepD real E base x s = some s' := by
  unfold stepS at h
  unfold stepD
  split at h
  · cases h
  · rename_i hw
    rw [hw]
    simp only []
    split at h
    · rename_i hr
      rw [hr]
      simp only []
      split at h
      · rename_i rd hck
        cases h
        obtain ⟨h1, h2⟩ := checkS_ok hck hg.2
        exact ⟨⟨hg.1, h1⟩, by rw [h2]⟩
      · cases h
    · rename_i hr
      cases h
      refine ⟨hg, ?_⟩
      split
      · rename_i e; exact absurd e (by simpa using hr)
      · rfl
  · rename_i hw
    rw [hw]
    simp only []
    split at h
    · rename_i hr
      rw [hr]
      simp only []
      split at h
      · split at h
        · rename_i v hv
          cases h
          exact ⟨hg, by rw [hv]⟩
        · cases h
      · split at h
        · rename_i v z1 hv
          cases h
          obtain ⟨h1, h2⟩ := valS_ok hv hg
          exact ⟨h1, by rw [h2]⟩
        · cases h
    · rename_i lo hi hr
      rw [hr]
      simp only []
      split at h
      · rename_i k V hs hhs
        rw [hhs]
        simp only []
        split at h
        · split at h
          · rename_i v hv
            rw [hv]
            simp only []
            split at h
            · rename_i rd hrd
              cases h
              obtain ⟨h1, h2⟩ := sameS_ok hrd hg.2
              refine ⟨⟨hg.1, h1⟩, ?_⟩
              have : sameAt E.globals s.T x.1.op v (heapsIn lo ((k, V) :: hs)) = true := by
                simp only [heapsIn]
                split
                · rename_i e
                  rw [e] at h2
                  simp only [sameAt, hv, AV.same_self, Bool.true_and]
                  exact h2
                · rfl
              rw [this, ← hhs]
            · cases h
          · cases h
        · split at h
          · rename_i v z1 hv
            split at h
            · rename_i rd hrd
              cases h
              obtain ⟨h1, h2⟩ := sameS_ok hrd hg.2
              obtain ⟨h3, h4⟩ := valS_ok hv ⟨hg.1, h1⟩
              refine ⟨h3, ?_⟩
              rw [h4]
              simp only []
              have : sameAt E.globals s.T x.1.op v (heapsIn lo ((k, V) :: hs)) = true := by
                simp only [heapsIn]
                split
                · rename_i e
                  rw [e] at h2
                  simp only [sameAt, h4, AV.same_self, Bool.true_and]
                  exact h2
                · rfl
              rw [this, ← hhs]
            · cases h
          · cases h
      · cases h
    · rename_i n hr
      rw [hr]
      simp only []
      split at h
      · rename_i o b ho
        cases h
        exact ⟨hg, by rw [ho]⟩
      · cases h
    · rename_i hr
      rw [hr]
      simp only []
      split at h
      · rename_i v H1 z1 hop
        split at h
        · rename_i rd hck
          cases h
          obtain ⟨h1, h2⟩ := checkS_ok hck hg.2
          obtain ⟨h3, h4⟩ := opS_ok hc hop ⟨hg.1, h1⟩
          refine ⟨h3, ?_⟩
          rw [h4]
          simp only [h2]
        · cases h
      · cases h
theorem runS_ok {call : CallS} {real : CallF} (hc : ServesS call real) {E : Env} {ms : List Pos} {base : Pos} : ∀ {l : List (XI × Role)} {s s' : SD} {z z' : Z}, runS call E ms base l s z = some (s', z') → z'.Good → z.Good ∧ runD real E base l s = some s'
  | [], s, s', z, z', h, hg => by
    simp only [runS] at h
    cases h
    exact ⟨hg, rfl⟩
  | x :: l, s, s', z, z', h, hg => by
    simp only [runS] at h
    split at h
    · rename_i s1 z1 hs
      obtain ⟨h1, h2⟩ := runS_ok hc h hg
      obtain ⟨h3, h4⟩ := stepS_ok hc hs h1
      exact ⟨h3, by simp only [runD, h4]; exact h2⟩
    · cases h
theorem bodyS_ok {call : CallS} {real : CallF} (hc : ServesS call real) {E : Env} {ms : List Pos} : ∀ {n : Nat} {x : XC} {T : Tm} {H : Hp} {z : Z} {e : Ex} {T' : Tm} {H' : Hp} {z' : Z}, bodyS call E ms n x T H z = some (e, T', H', z') → z'.Good → z.Good ∧ body real E n x T H = some (e, T', H')
  | 0, _, _, _, _, _, _, _, _, h, _ => by simp [bodyS] at h
  | n + 1, x, T, H, z, e, T', H', z', h, hg => by
    cases x with
    | skip => simp only [bodyS] at h; cases h; exact ⟨hg, rfl⟩
    | rg l =>
      simp only [bodyS] at h
      split at h
      · rename_i ho
        cases h
        obtain ⟨h1, h2⟩ := opsS_ok hc ho hg
        exact ⟨h1, by simp only [body, h2]⟩
      · cases h
    | rgd a l =>
      simp only [bodyS] at h
      split at h
      · rename_i ho
        cases h
        obtain ⟨h1, h2⟩ := runS_ok hc ho hg
        exact ⟨h1, by simp only [body, h2]⟩
      · cases h
    | seq a b =>
      simp only [bodyS] at h
      split at h
      · rename_i ho
        obtain ⟨h1, h2⟩ := bodyS_ok hc h hg
        obtain ⟨h3, h4⟩ := bodyS_ok hc ho h1
        exact ⟨h3, by simp only [body, h4]; exact h2⟩
      · rename_i hne
        obtain ⟨h1, h2⟩ := bodyS_ok hc h hg
        refine ⟨h1, ?_⟩
        simp only [body, h2]
        cases e with
        | normal => exact absurd h (hne _ _ _)
        | exit id => rfl
        | ret => rfl
    | cond c a b =>
      simp only [bodyS] at h
      split at h
      · rename_i hb
        obtain ⟨h1, h2⟩ := bodyS_ok hc h hg
        exact ⟨h1, by simp only [body, hb]; exact h2⟩
      · rename_i hb
        obtain ⟨h1, h2⟩ := bodyS_ok hc h hg
        exact ⟨h1, by simp only [body, hb]; exact h2⟩
      · cases h
    | block id b =>
      simp only [bodyS] at h
      split at h
      · rename_i id' T1 H1 z1 ho
        split at h
        · rename_i hid
          cases h
          obtain ⟨h1, h2⟩ := bodyS_ok hc ho hg
          exact ⟨h1, by simp only [body, h2, hid]⟩
        · rename_i hid
          cases h
          obtain ⟨h1, h2⟩ := bodyS_ok hc ho hg
          exact ⟨h1, by simp only [body, h2, hid]⟩
      · rename_i hne
        obtain ⟨h1, h2⟩ := bodyS_ok hc h hg
        refine ⟨h1, ?_⟩
        simp only [body, h2]
        cases e with
        | normal => rfl
        | exit id => exact absurd h (hne _ _ _ _)
        | ret => rfl
    | loop b =>
      simp only [bodyS] at h
      split at h
      · rename_i ho
        obtain ⟨h1, h2⟩ := bodyS_ok hc h hg
        obtain ⟨h3, h4⟩ := bodyS_ok hc ho h1
        exact ⟨h3, by simp only [body, h4]; exact h2⟩
      · rename_i hne
        obtain ⟨h1, h2⟩ := bodyS_ok hc h hg
        refine ⟨h1, ?_⟩
        simp only [body, h2]
        cases e with
        | normal => exact absurd h (hne _ _ _)
        | exit id => rfl
        | ret => rfl
    | exit id => simp only [bodyS] at h; cases h; exact ⟨hg, rfl⟩
    | ret => simp only [bodyS] at h; cases h; exact ⟨hg, rfl⟩
theorem addOb_all : ∀ {l m : List Ob}, allOb (addOb l m) → allOb l ∧ allOb m
  | [], _, h => ⟨trivial, h⟩
  | o :: l, m, ⟨h1, h2⟩ => ⟨⟨h1, (addOb_all h2).1⟩, (addOb_all h2).2⟩
/-- the sums are the table's -/
def Mk.For (M : Mk) (E : Env) : Prop := ∀ f C, M.cs.get f = some C → E.sums.get f = some (realOf C)
theorem callS_ok {E : Env} {M : Mk} (hM : M.For E) : ∀ n, ServesS (callS E M n) (callN E n)
  | 0 => fun f args H z v H' z' h _ => by simp [callS] at h
  | n + 1 => fun f args H z v H' z' h hg => by
    simp only [callS] at h
    simp only [callN]
    split at h
    · rename_i C hC
      rw [hM f C hC]
      simp only [realOf]
      split at h
      · rename_i v1 H1 obs he
        cases h
        obtain ⟨h1, h2⟩ := addOb_all hg.1
        exact ⟨⟨h2, hg.2⟩, if_pos h1⟩
      · cases h
    split at h
    · rename_i F hF
      rw [hF]
      simp only []
      split at h
      · rename_i v1 H1 he
        cases h
        exact ⟨hg, he⟩
      · cases h
    · rename_i hF
      rw [hF]
      simp only []
      split at h
      · cases h
      · rename_i x hx
        rw [hx]
        simp only []
        split at h
        · cases h
        · rename_i e T' H1 z1 hne hb
          split at h
          · rename_i vs hvs
            cases h
            obtain ⟨h1, h2⟩ := bodyS_ok (callS_ok hM n) hb hg
            refine ⟨h1, ?_⟩
            rw [h2]
            cases e with
            | normal => simp only [hvs]
            | exit id => exact (hne id rfl).elim
            | ret => simp only [hvs]
          · cases h
        · cases h
end

/-- what a run by a script told: its result, what must hold, the reads -/
noncomputable def toldS (r : Option (AV × Hp × Z)) : Option (AV × Hp × List Ob × List AV) := match r with
  | some (v, H, z) => some (v, H, z.ob, z.rd.map (·.1))
  | none => none
noncomputable def againS (r : Option (AV × Hp × Z)) : List AV := match r with
  | some (_, _, z) => z.rd.map (·.2)
  | none => []
theorem allRd_of : ∀ {l : List (AV × AV)}, l.map (·.1) = l.map (·.2) → allRd l
  | [], _ => trivial
  | x :: l, h => by
    simp only [List.map_cons, List.cons.injEq] at h
    exact ⟨h.1, allRd_of h.2⟩
theorem scripted {E : Env} {mk : Mk} (hM : mk.For E) {n : Nat} {f : Pos} {args : List AV} {H : Hp} {sc : List Sc} {v : AV} {H' : Hp} {ob : List Ob} (h : toldS (callS E mk n f args H ⟨sc, [], []⟩) = some (v, H', ob, againS (callS E mk n f args H ⟨sc, [], []⟩))) (ho : allOb ob) : callN E n f args H = some (v, H') := by
  cases hr : callS E mk n f args H ⟨sc, [], []⟩ with
  | none => rw [hr] at h; cases h
  | some x =>
    obtain ⟨v1, H1, z1⟩ := x
    rw [hr] at h
    simp only [toldS, againS, Option.some.injEq, Prod.mk.injEq] at h
    obtain ⟨rfl, rfl, h3, h4⟩ := h
    exact (callS_ok hM n _ _ _ _ _ _ _ hr ⟨h3 ▸ ho, allRd_of h4⟩).2
noncomputable def toldB (r : Option (Ex × Tm × Hp × Z)) : Option (Ex × Tm × Hp × List Ob × List AV) := match r with
  | some (e, T, H, z) => some (e, T, H, z.ob, z.rd.map (·.1))
  | none => none
noncomputable def againB (r : Option (Ex × Tm × Hp × Z)) : List AV := match r with
  | some (_, _, _, z) => z.rd.map (·.2)
  | none => []
theorem scriptedB {E : Env} {mk : Mk} (hM : mk.For E) {ms : List Pos} {N n : Nat} {x : XC} {T : Tm} {H : Hp} {sc : List Sc} {e : Ex} {T' : Tm} {H' : Hp} {ob : List Ob} (h : toldB (bodyS (callS E mk N) E ms n x T H ⟨sc, [], []⟩) = some (e, T', H', ob, againB (bodyS (callS E mk N) E ms n x T H ⟨sc, [], []⟩))) (ho : allOb ob) : body (callN E N) E n x T H = some (e, T', H') := by
  cases hr : bodyS (callS E mk N) E ms n x T H ⟨sc, [], []⟩ with
  | none => rw [hr] at h; cases h
  | some y =>
    obtain ⟨e1, T1, H1, z1⟩ := y
    rw [hr] at h
    simp only [toldB, againB, Option.some.injEq, Prod.mk.injEq] at h
    obtain ⟨rfl, rfl, rfl, h3, h4⟩ := h
    exact (bodyS_ok (callS_ok hM N) hr ⟨h3 ▸ ho, allRd_of h4⟩).2
/-- marks alone -/
def mk0 (t : Tr (List Pos)) : Mk := ⟨t, .lf⟩
theorem mk0_for (t : Tr (List Pos)) (E : Env) : (mk0 t).For E := fun f C h => by
  have : (mk0 t).cs.get f = none := Tr.get_lf f
  rw [this] at h; cases h
end Go.Ev
