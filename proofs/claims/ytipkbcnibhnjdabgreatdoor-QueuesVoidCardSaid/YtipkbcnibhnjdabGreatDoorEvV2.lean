/-
Arithmetic and comparisons of the evaluator are the model's.
-/
import Derived.Test.YtipkbcnibhnjdabGreatDoorEvV1
set_option linter.unusedVariables false
set_option linter.unusedSimpArgs false
namespace Go.Ev

theorem modI_eq (m : Nat) (hm : 0 < m) : ∀ n : Int, (modI m n : Int) = n % (m : Int)
  | .ofNat a => by simp [modI]
  | .negSucc a => by
    have h : a % m < m := Nat.mod_lt _ hm
    rw [Int.negSucc_emod _ (by omega)]
    simp only [modI]
    omega
theorem wrapU_eq (m : Nat) (hm : 0 < m) (n : Int) : wrapU m n = n % (m : Int) := by
  rw [← modI_eq m hm]; rfl
theorem modI_lt (m : Nat) (hm : 0 < m) (n : Int) : modI m n < m := by
  have h := modI_eq m hm n
  have := Int.emod_lt_of_pos n (show (0 : Int) < m by omega)
  omega
theorem wrapS_eq (m : Nat) (hm : 0 < m) (n : Int) : wrapS m n = if (m : Int) ≤ 2 * (n % (m : Int)) then n % (m : Int) - m else n % (m : Int) := by
  have h := modI_eq m hm n
  have hlt := modI_lt m hm n
  unfold wrapS
  split
  · rename_i e
    have := Nat.le_of_ble_eq_true e
    rw [if_pos (by omega), ← h, Int.negSucc_eq]
    omega
  · rename_i e
    have : ¬ m ≤ 2 * modI m n := fun x => by rw [Nat.ble_eq_true_of_le x] at e; cases e
    rw [if_neg (by omega), ← h]
    rfl
theorem wrap_signed {k : IntKind} (n : Int) (m half : Nat) (hs : k.signed = true) (hm : (2 : Int) ^ k.bits = (m : Int)) (hh : (2 : Int) ^ (k.bits - 1) = (half : Int)) (h2 : m = 2 * half) :
    k.wrap n = if (m : Int) ≤ 2 * (n % (m : Int)) then n % (m : Int) - m else n % (m : Int) := by
  have e : k.wrap n = if (true && decide (n % (m : Int) ≥ (half : Int))) = true then n % (m : Int) - m else n % (m : Int) := by
    unfold IntKind.wrap
    simp only [hs, hm, hh]
  rw [e]
  by_cases hc : n % (m : Int) ≥ (half : Int)
  · rw [if_pos (by simp; exact hc), if_pos (by omega)]
  · rw [if_neg (by simp; omega), if_neg (by omega)]
theorem wrap_unsigned {k : IntKind} (n : Int) (m : Nat) (hs : k.signed = false) (hm : (2 : Int) ^ k.bits = (m : Int)) : k.wrap n = n % (m : Int) := by
  unfold IntKind.wrap
  simp only [hs, hm, Bool.false_and, Bool.false_eq_true, if_false]
theorem wrapF_eq (k : IntKind) (n : Int) : wrapF k n = k.wrap n := by
  cases k
  case i8 => rw [wrap_signed n 256 128 rfl rfl rfl rfl]; exact wrapS_eq _ (by decide) n
  case i16 => rw [wrap_signed n 65536 32768 rfl rfl rfl rfl]; exact wrapS_eq _ (by decide) n
  case i32 => rw [wrap_signed n 4294967296 2147483648 rfl rfl rfl rfl]; exact wrapS_eq _ (by decide) n
  case i64 => rw [wrap_signed n 18446744073709551616 9223372036854775808 rfl rfl rfl rfl]; exact wrapS_eq _ (by decide) n
  case u8 => rw [wrap_unsigned n 256 rfl rfl]; exact wrapU_eq _ (by decide) n
  case u16 => rw [wrap_unsigned n 65536 rfl rfl]; exact wrapU_eq _ (by decide) n
  case u32 => rw [wrap_unsigned n 4294967296 rfl rfl]; exact wrapU_eq _ (by decide) n
  case u64 => rw [wrap_unsigned n 18446744073709551616 rfl rfl]; exact wrapU_eq _ (by decide) n

theorem kidx_inj {k k' : IntKind} (h : Nat.beq (kidx k) (kidx k') = true) : k = k' := by
  cases k <;> cases k' <;> first | rfl | (simp [kidx] at h)
theorem eqI_eq : ∀ a b : Int, eqI a b = (a == b)
  | .ofNat a, .ofNat b => by
    simp only [eqI]
    rw [Bool.eq_iff_iff]
    simp
    omega
  | .negSucc a, .negSucc b => by
    simp only [eqI]
    rw [Bool.eq_iff_iff]
    simp
  | .ofNat a, .negSucc b => by simp [eqI]
  | .negSucc a, .ofNat b => by simp [eqI]
theorem ltI_eq : ∀ a b : Int, ltI a b = decide (a < b)
  | .ofNat a, .ofNat b => by
    simp only [ltI]
    rw [Bool.eq_iff_iff]
    simp
    omega
  | .negSucc a, .negSucc b => by
    simp only [ltI]
    rw [Bool.eq_iff_iff]
    simp only [Nat.ble_eq, decide_eq_true_eq, Int.negSucc_eq]
    omega
  | .ofNat a, .negSucc b => by simp only [ltI, Int.negSucc_eq, Int.ofNat_eq_natCast]; rw [Bool.eq_iff_iff]; simp; omega
  | .negSucc a, .ofNat b => by simp only [ltI, Int.negSucc_eq, Int.ofNat_eq_natCast]; rw [Bool.eq_iff_iff]; simp; omega
theorem leI_eq (a b : Int) : leI a b = decide (a ≤ b) := by
  unfold leI
  rw [ltI_eq, Bool.eq_iff_iff]
  simp
theorem natOf_eq {n : Int} {m : Nat} (h : natOf n = some m) : n = (m : Int) := by
  cases n <;> simp [natOf] at h
  subst h
  rfl
theorem mulP_eq (x : Int) (n : Nat) : mulP x n = x * 2 ^ n := by
  have hp : 0 < 2 ^ n := Nat.two_pow_pos n
  cases x with
  | ofNat a => simp [mulP]
  | negSucc a =>
    simp only [mulP, Int.negSucc_eq]
    have h1 : 1 ≤ (a + 1) * 2 ^ n := Nat.mul_pos (by omega) hp
    have h2 : (((a + 1) * 2 ^ n - 1 : Nat) : Int) = ((a + 1 : Nat) : Int) * ((2 ^ n : Nat) : Int) - 1 := by
      rw [Int.ofNat_sub h1, Int.natCast_mul]; rfl
    rw [h2]
    simp
    rw [← Int.neg_mul]
theorem divP_eq (x : Int) (n : Nat) : divP x n = x.fdiv (2 ^ n) := by
  have hp : 0 < 2 ^ n := Nat.two_pow_pos n
  cases x with
  | ofNat a =>
    simp only [divP]
    rw [Int.fdiv_eq_ediv_of_nonneg _ (by exact_mod_cast Nat.le_of_lt hp)]
    simp
  | negSucc a =>
    simp only [divP]
    rw [Int.fdiv_eq_ediv_of_nonneg _ (by exact_mod_cast Nat.le_of_lt hp)]
    have : (2 : Int) ^ n = ((2 ^ n : Nat) : Int) := by simp
    rw [this, Int.negSucc_ediv _ (by exact_mod_cast hp), Int.negSucc_eq]
    have e : (a : Int).ediv ((2 ^ n : Nat) : Int) = ((a / 2 ^ n : Nat) : Int) := rfl
    rw [e]
theorem modOf_eq (k : IntKind) : modOf k = 2 ^ k.bits := by cases k <;> rfl
theorem bitsOf_eq (k : IntKind) : bitsOf k = k.bits := by cases k <;> rfl
theorem modOf_pos (k : IntKind) : 0 < modOf k := by cases k <;> decide
theorem toNat_ofInt (k : IntKind) (x : Int) : (BitVec.ofInt k.bits x).toNat = modI (modOf k) x := by
  have h := modI_eq (modOf k) (modOf_pos k) x
  rw [BitVec.toNat_ofInt]
  have : ((2 ^ k.bits : Nat) : Int) = ((modOf k : Nat) : Int) := by rw [modOf_eq]
  rw [this, ← h]
  simp

def boM : BO → BinOp
  | .add => .add | .sub => .sub | .mul => .mul | .quo => .quo | .rem => .rem | .and => .and | .or => .or | .xor => .xor | .andNot => .andNot
  | .shl => .shl | .shr => .shr | .eql => .eql | .neq => .neq | .lss => .lss | .leq => .leq | .gtr => .gtr | .geq => .geq
theorem boOf_eq {op : BinOp} {o : BO} (h : boOf op = some o) : op = boM o := by
  cases op <;> simp [boOf] at h <;> subst h <;> rfl

section
variable {P : Program} {φ : Emb}

theorem binI_sound {o : BO} {k : IntKind} {x y : Int} {v : AV} (h : binI o k x y = some v) (t : TypeId) (w : World) :
    ∃ u, (binOp (boM o) t (.int k x) (.int k y)).run P w = .ok u w ∧ VR φ v u := by
  cases o <;> simp only [binI] at h
  case add => cases h; exact ⟨.int k (k.wrap (x + y)), by simp [boM, binOp, Op.intArith], by rw [wrapF_eq]; rfl⟩
  case sub => cases h; exact ⟨.int k (k.wrap (x - y)), by simp [boM, binOp, Op.intArith], by rw [wrapF_eq]; rfl⟩
  case mul => cases h; exact ⟨.int k (k.wrap (x * y)), by simp [boM, binOp, Op.intArith], by rw [wrapF_eq]; rfl⟩
  case quo =>
    split at h
    · cases h
    · rename_i e
      cases h
      rw [eqI_eq] at e
      have : y ≠ 0 := by simpa using e
      exact ⟨.int k (k.wrap (x.tdiv y)), by simp [boM, binOp, Op.intDiv, this], by rw [wrapF_eq]; rfl⟩
  case rem =>
    split at h
    · cases h
    · rename_i e
      cases h
      rw [eqI_eq] at e
      have : y ≠ 0 := by simpa using e
      exact ⟨.int k (x.tmod y), by simp [boM, binOp, Op.intDiv, this], rfl⟩
  case and => cases h; exact ⟨.int k (k.wrap (((BitVec.ofInt k.bits x &&& BitVec.ofInt k.bits y).toNat : Nat) : Int)), by simp [boM, binOp, Op.intBits], by rw [wrapF_eq, BitVec.toNat_and, toNat_ofInt, toNat_ofInt]; rfl⟩
  case or => cases h; exact ⟨.int k (k.wrap (((BitVec.ofInt k.bits x ||| BitVec.ofInt k.bits y).toNat : Nat) : Int)), by simp [boM, binOp, Op.intBits], by rw [wrapF_eq, BitVec.toNat_or, toNat_ofInt, toNat_ofInt]; rfl⟩
  case xor => cases h; exact ⟨.int k (k.wrap (((BitVec.ofInt k.bits x ^^^ BitVec.ofInt k.bits y).toNat : Nat) : Int)), by simp [boM, binOp, Op.intBits], by rw [wrapF_eq, BitVec.toNat_xor, toNat_ofInt, toNat_ofInt]; rfl⟩
  case andNot => cases h; exact ⟨.int k (k.wrap (((BitVec.ofInt k.bits x &&& ~~~(BitVec.ofInt k.bits y)).toNat : Nat) : Int)), by simp [boM, binOp, Op.intBits], by rw [wrapF_eq, BitVec.toNat_and, BitVec.toNat_not, toNat_ofInt, toNat_ofInt, ← modOf_eq]; rfl⟩
  case shl => cases h
  case shr => cases h
  case eql => cases h; exact ⟨.bool (x == y), by simp [boM, binOp, Op.intCmp], by rw [eqI_eq]; rfl⟩
  case neq => cases h; exact ⟨.bool (x != y), by simp [boM, binOp, Op.intCmp], by rw [eqI_eq]; rfl⟩
  case lss => cases h; exact ⟨.bool (decide (x < y)), by simp [boM, binOp, Op.intCmp], by rw [ltI_eq]; rfl⟩
  case leq => cases h; exact ⟨.bool (decide (x ≤ y)), by simp [boM, binOp, Op.intCmp], by rw [leI_eq]; rfl⟩
  case gtr => cases h; exact ⟨.bool (decide (y < x)), by simp [boM, binOp, Op.intCmp], by rw [ltI_eq]; rfl⟩
  case geq => cases h; exact ⟨.bool (decide (y ≤ x)), by simp [boM, binOp, Op.intCmp], by rw [leI_eq]; rfl⟩
theorem shI_sound {o : BO} {k k' : IntKind} {x y : Int} {v : AV} (h : shI o k x y = some v) (t : TypeId) (w : World) :
    ∃ u, (binOp (boM o) t (.int k x) (.int k' y)).run P w = .ok u w ∧ VR φ v u := by
  simp only [shI] at h
  split at h
  · cases h
  · rename_i n hn
    have hy := natOf_eq hn
    subst hy
    have hnn : ¬ ((n : Int) < 0) := by omega
    cases o <;> simp only [] at h <;> try (cases h; done)
    · cases h; exact ⟨_, by simp [boM, binOp, Op.shift, hnn]; rfl, by rw [wrapF_eq, mulP_eq, bitsOf_eq]; rfl⟩
    · cases h; exact ⟨_, by simp [boM, binOp, Op.shift, hnn]; rfl, by rw [divP_eq, bitsOf_eq]; rfl⟩
theorem strEq_eq : ∀ a b : List UInt8, strEq a b = (a == b)
  | [], [] => rfl
  | [], _ :: _ => rfl
  | _ :: _, [] => rfl
  | a :: x, b :: y => by
    simp only [strEq, strEq_eq x y]
    rw [Bool.eq_iff_iff]
    simp [UInt8.toNat_inj]
theorem ba_toList (l : List UInt8) : (⟨l.toArray⟩ : ByteArray).toList = l := by rw [ByteArray.toList_eq]
theorem binS_sound {o : BO} {x y : List UInt8} {v : AV} (h : binS o x y = some v) (t : TypeId) (w : World) :
    ∃ u, (binOp (boM o) t (.string ⟨x.toArray⟩) (.string ⟨y.toArray⟩)).run P w = .ok u w ∧ VR φ v u := by
  cases o <;> simp only [binS] at h <;> try (cases h; done)
  case add =>
    split at h
    · rename_i e
      have := Nat.le_of_ble_eq_true e
      cases h
      refine ⟨.string (⟨x.toArray⟩ ++ ⟨y.toArray⟩), ?_, ?_⟩
      · have hs : ¬ (((⟨x.toArray⟩ : ByteArray).size + (⟨y.toArray⟩ : ByteArray).size : Nat) : Int) > IntKind.i64.max := by
          show ¬ ((x.toArray.size + y.toArray.size : Nat) : Int) > IntKind.i64.max
          simp [IntKind.max, IntKind.signed, IntKind.bits]
          omega
        simp only [boM, binOp, Op.stringOp, hs, if_false]
        rfl
      · show _ = _
        congr 1
    · cases h
  case eql => cases h; exact ⟨_, by simp only [boM, binOp, Op.stringOp]; rfl, by rw [ba_toList, ba_toList, strEq_eq]; rfl⟩
  case neq => cases h; exact ⟨_, by simp only [boM, binOp, Op.stringOp]; rfl, by rw [ba_toList, ba_toList, strEq_eq]; rfl⟩
end
end Go.Ev
