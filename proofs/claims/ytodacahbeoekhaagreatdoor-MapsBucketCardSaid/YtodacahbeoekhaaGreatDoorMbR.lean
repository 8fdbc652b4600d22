/-
The row of MapsBucket.
-/
import Derived.Test.YtodacahbeoekhaaGreatDoorMbV
import Derived.Test.YtodacahbeoekhaaGreatDoorRows
import Derived.Lib.LaidIn
import Derived.Lib.LaidU8
import Derived.Deep.DeepHandedRow
import Derived.Deep.DeepWitnessRowRef
import Derived.ProofKit
import Derived.SizedLaws
namespace Go.Proofs.YtodacahbeoekhaaGreatDoor
open Go Go.Ev Go.Lib
set_option maxRecDepth 1000000

theorem u120 : Tryz.prog.underlying 120 = some (.struct #[{ name := "from", type := 119, offset := 0, embedded := false, tag := "", pkgPath := "ragpicker/words", byteOffset := 0 }, { name := "bits", type := 119, offset := 1, embedded := false, tag := "", pkgPath := "ragpicker/words", byteOffset := 8 }]) := by kernel_rfl
theorem u119 : Tryz.prog.underlying 119 = some (.int .u64) := by kernel_rfl
theorem u121 : Tryz.prog.underlying 121 = some (.array 11 120) := by kernel_rfl
theorem c119 : Tryz.prog.cellsOf 119 = 1 := by kernel_rfl
theorem c120 : Tryz.prog.cellsOf 120 = 2 := by kernel_rfl

def pairs : List (Int × Int) := [(0, 16), (16, 32), (16, 48), (0, 3), (3, 32), (0, 3), (3, 3), (6, 3), (16, 48), (0, 32), (32, 1)]
theorem fields_reads {W : World} (h : VarReads Tryz.prog W "ragpicker/words.fields" Rows.laid_ragpicker_words_fields) : ∃ c t f, W.heap[0]? = some (.cells c t f) ∧ ∀ i (hi : i < 11), c[2 * i]? = some (.int .u64 (pairs[i]).1) ∧ c[2 * i + 1]? = some (.int .u64 (pairs[i]).2) := by
  obtain ⟨g, t, cs, fuel, p, hg, hty, hvar, hd⟩ := h
  obtain rfl := Option.some.inj ((show Tryz.prog.globalNamed "ragpicker/words.fields" = some 0 by kernel_rfl).symm.trans hg)
  obtain rfl := Option.some.inj ((show (Tryz.prog.globals[0]?).map (·.type) = some 121 by kernel_rfl).symm.trans hty)
  have hall : ∀ i (hi : i < 11), cs[2 * i]? = some (.int .u64 (pairs[i]).1) ∧ cs[2 * i + 1]? = some (.int .u64 (pairs[i]).2) := by
    intro i hi
    obtain ⟨fuel', d, q, hdi, he⟩ := array_elem u121 hd i hi
    rw [c120] at he
    have hdd : d = .agg ([(pairs[i]).1, (pairs[i]).2].map fun z => .lit (.int .u64 z)) := by
      have : i = 0 ∨ i = 1 ∨ i = 2 ∨ i = 3 ∨ i = 4 ∨ i = 5 ∨ i = 6 ∨ i = 7 ∨ i = 8 ∨ i = 9 ∨ i = 10 := by omega
      rcases this with rfl | rfl | rfl | rfl | rfl | rfl | rfl | rfl | rfl | rfl | rfl <;> exact (Option.some.inj hdi).symm
    subst hdd
    have hcs := ints_of_struct u120 (fun j f hj => by
      match j, hj with
      | 0, hj => simp at hj; subst hj; exact ⟨u119, rfl, c119⟩
      | 1, hj => simp at hj; subst hj; exact ⟨u119, rfl, c119⟩
      | j + 2, hj => simp at hj) (by rw [c120]; rfl) he
    have e0 := congrArg (·[0]?) hcs
    have e1 := congrArg (·[1]?) hcs
    simp only [List.getElem?_take, List.getElem?_drop] at e0 e1
    constructor
    · rw [← Array.getElem?_toList]
      simpa [Nat.mul_comm] using e0
    · rw [← Array.getElem?_toList]
      simpa [Nat.mul_comm] using e1
  have h0 := World.var?_cell hg hvar
  have hc : ∀ j, W.cell? ⟨0, j, none⟩ = cs[j]? := h0
  have h00 := (hall 0 (by omega)).1
  rw [← hc] at h00
  unfold World.cell? at hc h00
  cases hh : W.heap[0]? with
  | none => rw [hh] at h00; cases h00
  | some o =>
    cases o with
    | cells c t f =>
      refine ⟨c, t, f, rfl, fun i hi => ?_⟩
      have hcc : ∀ j, c[j]? = cs[j]? := fun j => by
        have := hc j
        rw [hh] at this
        simpa using this
      rw [hcc, hcc]
      exact hall i hi
    | _ => rw [hh] at h00; simp at h00

theorem u306 : Tryz.prog.underlying 306 = some (.int .u8) := by kernel_rfl
theorem u4 : Tryz.prog.underlying 4 = some .bool := by kernel_rfl
theorem u100 : Tryz.prog.underlying 100 = some (.int .u8) := by kernel_rfl
theorem phases_zero : ∃ zero : Array Value, ((begin Tryz.prog (fun _ _ => 0) default).world.heap[1]?).bind Obj.row? = some (zero, 311) ∧ zero.size = 12 := by
  have h : (((begin Tryz.prog (fun _ _ => 0) default).world.heap[1]?).bind Obj.row?).map (fun x => (x.1.size, x.2)) = some (12, 311) := by kernel_rfl
  obtain ⟨⟨z, t⟩, hx, h1⟩ := Option.map_eq_some_iff.1 h
  simp only [Prod.mk.injEq] at h1
  obtain ⟨h1, rfl⟩ := h1
  exact ⟨z, hx, h1⟩
theorem phases_shaped {W : World} (h : W.ShapedOpen Tryz.prog) : ∃ c t f m w n y, W.heap[1]? = some (.cells c t f) ∧ m < 256 ∧ c[0]? = some (.int .u8 (.ofNat m)) ∧ c[1]? = some (.bool w) ∧ c[2]? = some (.int .u8 n) ∧ c[3]? = some (.int .u8 y) := by
  obtain ⟨zero, hz, hs⟩ := phases_zero
  obtain ⟨cs, hh, hsz, hr⟩ := h.1 1 zero 311 (of_decide_eq_true (by kernel_rfl)) hz
  obtain ⟨ts, hts, _, hall⟩ := hr (by kernel_rfl)
  have ht : Tryz.prog.cellTypes Tryz.prog.depth 311 = some [306, 4, 100, 306, 4, 100, 306, 4, 100, 306, 4, 100] := by kernel_rfl
  rw [ht] at hts
  cases hts
  have hlen : cs.size = 12 := by omega
  have int8 : ∀ i t, i < 12 → [306, 4, 100, 306, 4, 100, 306, 4, 100, 306, 4, 100][i % 12]? = some t → Tryz.prog.underlying t = some (.int .u8) → ∃ n, cs[i]? = some (.int .u8 n) ∧ IntKind.u8.has n := by
    intro i t hi ht hu
    obtain ⟨u, hu', hok⟩ := hall i cs[i] (by simp [hlen, hi])
    have e : t = u := Option.some.inj (ht.symm.trans hu')
    subst e
    unfold Cell.ok at hok
    rw [hu] at hok
    cases hv : cs[i] <;> rw [hv] at hok <;> simp at hok
    case int k' n => exact ⟨n, by rw [Array.getElem?_eq_getElem (by omega), hv, hok.1], hok.2⟩
  obtain ⟨m, hm, hm8⟩ := int8 0 306 (by omega) rfl u306
  obtain ⟨n, hn, _⟩ := int8 2 100 (by omega) rfl u100
  obtain ⟨y, hy, _⟩ := int8 3 306 (by omega) rfl u306
  obtain ⟨u, hu', hok⟩ := hall 1 cs[1] (by simp [hlen])
  have e : u = 4 := by simpa using hu'.symm
  subst e
  unfold Cell.ok at hok
  rw [u4] at hok
  cases hv : cs[1] <;> rw [hv] at hok <;> simp at hok
  case bool w =>
    have hm' : 0 ≤ m ∧ m < 256 := by
      have e1 : IntKind.u8.min = 0 := by decide
      have e2 : IntKind.u8.max = 255 := by decide
      unfold IntKind.has at hm8
      omega
    obtain ⟨k, rfl⟩ := Int.eq_ofNat_of_zero_le hm'.1
    exact ⟨cs, _, _, k, w, n, y, hh, by omega, hm, by rw [Array.getElem?_eq_getElem (by omega), hv], hn, hy⟩
end Go.Proofs.YtodacahbeoekhaaGreatDoor
