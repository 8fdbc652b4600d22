/-
Joined texts.
-/
import Derived.Test.YtipkbcnibhnjdabGreatDoorQvV
import Derived.Lib.SmallJoins
import Derived.Test.YtipkbcnibhnjdabGreatDoorRows
import Derived.Lib.LaidIn
import Derived.Lib.LaidU8
import Derived.Deep.DeepHandedRow
import Derived.Deep.DeepWitnessRowRef
import Derived.Deep.Strs
import Derived.ChangeStays
import Derived.ProofKit
import Derived.SizedLaws
import Derived.WideShapes
set_option linter.unusedVariables false
set_option linter.unusedSimpArgs false
/-
The row of QueuesVoid: what its premises give.
-/
namespace Go.Proofs.YtipkbcnibhnjdabGreatDoor
open Go Go.Ev Go.Lib Go.ChangeShapes Go.Deep
set_option maxRecDepth 1000000

theorem u206 : Tryz.prog.underlying 206 = some (.struct #[{ name := "from", type := 205, offset := 0, embedded := false, tag := "", pkgPath := "ragpicker/words", byteOffset := 0 }, { name := "bits", type := 205, offset := 1, embedded := false, tag := "", pkgPath := "ragpicker/words", byteOffset := 8 }]) := by kernel_rfl
theorem u205 : Tryz.prog.underlying 205 = some (.int .u64) := by kernel_rfl
theorem u207 : Tryz.prog.underlying 207 = some (.array 11 206) := by kernel_rfl
theorem c205 : Tryz.prog.cellsOf 205 = 1 := by kernel_rfl
theorem c206 : Tryz.prog.cellsOf 206 = 2 := by kernel_rfl

def pairs : List (Int × Int) := [(0, 16), (16, 32), (16, 48), (0, 3), (3, 32), (0, 3), (3, 3), (6, 3), (16, 48), (0, 32), (32, 1)]
theorem fields_reads {W : World} (h : VarReads Tryz.prog W "ragpicker/words.fields" Rows.laid_ragpicker_words_fields) : ∃ c t f, W.heap[1]? = some (.cells c t f) ∧ ∀ i (hi : i < 11), c[2 * i]? = some (.int .u64 (pairs[i]).1) ∧ c[2 * i + 1]? = some (.int .u64 (pairs[i]).2) := by
  obtain ⟨g, t, cs, fuel, p, hg, hty, hvar, hd⟩ := h
  obtain rfl := Option.some.inj ((show Tryz.prog.globalNamed "ragpicker/words.fields" = some 1 by kernel_rfl).symm.trans hg)
  obtain rfl := Option.some.inj ((show (Tryz.prog.globals[1]?).map (·.type) = some 207 by kernel_rfl).symm.trans hty)
  have hall : ∀ i (hi : i < 11), cs[2 * i]? = some (.int .u64 (pairs[i]).1) ∧ cs[2 * i + 1]? = some (.int .u64 (pairs[i]).2) := by
    intro i hi
    obtain ⟨fuel', d, q, hdi, he⟩ := array_elem u207 hd i hi
    rw [c206] at he
    have hdd : d = .agg ([(pairs[i]).1, (pairs[i]).2].map fun z => .lit (.int .u64 z)) := by
      have : i = 0 ∨ i = 1 ∨ i = 2 ∨ i = 3 ∨ i = 4 ∨ i = 5 ∨ i = 6 ∨ i = 7 ∨ i = 8 ∨ i = 9 ∨ i = 10 := by omega
      rcases this with rfl | rfl | rfl | rfl | rfl | rfl | rfl | rfl | rfl | rfl | rfl <;> exact (Option.some.inj hdi).symm
    subst hdd
    have hcs := ints_of_struct u206 (fun j f hj => by
      match j, hj with
      | 0, hj => simp at hj; subst hj; exact ⟨u205, rfl, c205⟩
      | 1, hj => simp at hj; subst hj; exact ⟨u205, rfl, c205⟩
      | j + 2, hj => simp at hj) (by rw [c206]; rfl) he
    have e0 := congrArg (·[0]?) hcs
    have e1 := congrArg (·[1]?) hcs
    simp only [List.getElem?_take, List.getElem?_drop] at e0 e1
    constructor
    · rw [← Array.getElem?_toList]
      simpa [Nat.mul_comm] using e0
    · rw [← Array.getElem?_toList]
      simpa [Nat.mul_comm] using e1
  have h0 := World.var?_cell hg hvar
  have hc : ∀ j, W.cell? ⟨1, j, none⟩ = cs[j]? := h0
  have h00 := (hall 0 (by omega)).1
  rw [← hc] at h00
  unfold World.cell? at hc h00
  cases hh : W.heap[1]? with
  | none => rw [hh] at h00; cases h00
  | some o =>
    cases o with
    | cells c t f =>
      refine ⟨c, t, f, rfl, fun i hi => ?_⟩
      have hcc : ∀ j, c[j]? = cs[j]? := fun j => by
        have := hc j
        rw [hh] at this
        simpa using this
      rw [hcc, hcc]
      exact hall i hi
    | _ => rw [hh] at h00; simp at h00

-- the phases' cells, of whatever value
theorem phases_types : ∃ ts, Tryz.prog.cellTypes Tryz.prog.depth 323 = some ts ∧ ts.map Tryz.prog.underlying = [some (.int .u8), some .bool, some (.int .u8), some (.int .u8), some .bool, some (.int .u8), some (.int .u8), some .bool, some (.int .u8), some (.int .u8), some .bool, some (.int .u8)] := by
  have h : (Tryz.prog.cellTypes Tryz.prog.depth 323).map (·.map Tryz.prog.underlying) = some [some (.int .u8), some .bool, some (.int .u8), some (.int .u8), some .bool, some (.int .u8), some (.int .u8), some .bool, some (.int .u8), some (.int .u8), some .bool, some (.int .u8)] := by kernel_rfl
  exact Option.map_eq_some_iff.1 h
theorem zero_at (g t sz : Nat) (h : (((begin Tryz.prog (fun _ _ => 0) default).world.heap[g]?).bind Obj.row?).map (fun x => (x.1.size, x.2)) = some (sz, t)) : ∃ zero : Array Value, ((begin Tryz.prog (fun _ _ => 0) default).world.heap[g]?).bind Obj.row? = some (zero, t) ∧ zero.size = sz := by
  obtain ⟨⟨z, t'⟩, hx, h1⟩ := Option.map_eq_some_iff.1 h
  simp only [Prod.mk.injEq] at h1
  obtain ⟨h1, rfl⟩ := h1
  exact ⟨z, hx, h1⟩
theorem int8_of {P : Program} {W : World} {t : TypeId} {v : Value} (hu : P.underlying t = some (.int .u8)) (h : Cell.ok P W .any 0 t v) : ∃ m : Nat, v = .int .u8 (.ofNat m) := by
  unfold Cell.ok at h
  rw [hu] at h
  cases v <;> simp at h
  case int k n =>
    obtain ⟨rfl, hn⟩ := h
    have e1 : IntKind.u8.min = 0 := by decide
    unfold IntKind.has at hn
    obtain ⟨m, rfl⟩ := Int.eq_ofNat_of_zero_le (show 0 ≤ n by omega)
    exact ⟨m, rfl⟩
theorem bool_of {P : Program} {W : World} {t : TypeId} {v : Value} (hu : P.underlying t = some .bool) (h : Cell.ok P W .any 0 t v) : ∃ m : Bool, v = .bool m := by
  unfold Cell.ok at h
  rw [hu] at h
  cases v <;> simp at h
  case bool b => exact ⟨b, rfl⟩
theorem phases_shaped {W : World} (h : W.ShapedOpen Tryz.prog) : ∃ (c : Array Value) (f : Nat × Nat) (p : PhT), W.heap[2]? = some (.cells c 323 f) ∧ ∀ (j : Nat) a, at? p.cells j = some a → ∃ v, c[j]? = some v ∧ ∀ ψ, VR ψ a v := by
  obtain ⟨zero, hz, hs⟩ := zero_at 2 323 12 (by kernel_rfl)
  obtain ⟨cs, hh, hsz, hr⟩ := h.1 2 zero 323 (of_decide_eq_true (by kernel_rfl)) hz
  obtain ⟨ts, hts, _, hall⟩ := hr (by kernel_rfl)
  obtain ⟨ts', hts', hmap⟩ := phases_types
  obtain rfl : ts' = ts := Option.some.inj (hts'.symm.trans hts)
  have hlt : ts'.length = 12 := by simpa using congrArg List.length hmap
  have hlen : cs.size = 12 := by omega
  have at' : ∀ i (hi : i < 12), ∃ u, ts'[i]? = some u ∧ Cell.ok Tryz.prog W .any 0 u (cs[i]'(by omega)) := fun i hi => by
    obtain ⟨u, h1, h2⟩ := hall i (cs[i]'(by omega)) (by simp [hlen, hi])
    rw [hlt, Nat.mod_eq_of_lt hi] at h1
    exact ⟨u, h1, h2⟩
  have und : ∀ i u, ts'[i]? = some u → (ts'.map Tryz.prog.underlying)[i]? = some (Tryz.prog.underlying u) := fun i u hu => by rw [List.getElem?_map, hu]; rfl
  have int8 : ∀ i (hi : i < 12), (ts'.map Tryz.prog.underlying)[i]? = some (some (.int .u8)) → ∃ m : Nat, cs[i]? = some (.int .u8 (.ofNat m)) := fun i hi hx => by
    obtain ⟨u, h1, h2⟩ := at' i hi
    rw [und i u h1] at hx
    obtain ⟨m, hm⟩ := int8_of (Option.some.inj hx) h2
    exact ⟨m, by rw [Array.getElem?_eq_getElem (by omega), hm]⟩
  have bl : ∀ i (hi : i < 12), (ts'.map Tryz.prog.underlying)[i]? = some (some .bool) → ∃ m : Bool, cs[i]? = some (.bool m) := fun i hi hx => by
    obtain ⟨u, h1, h2⟩ := at' i hi
    rw [und i u h1] at hx
    obtain ⟨m, hm⟩ := bool_of (Option.some.inj hx) h2
    exact ⟨m, by rw [Array.getElem?_eq_getElem (by omega), hm]⟩
  obtain ⟨m0, e0⟩ := int8 0 (by omega) (by rw [hmap]; rfl)
  obtain ⟨w0, e1⟩ := bl 1 (by omega) (by rw [hmap]; rfl)
  obtain ⟨n0, e2⟩ := int8 2 (by omega) (by rw [hmap]; rfl)
  obtain ⟨m1, e3⟩ := int8 3 (by omega) (by rw [hmap]; rfl)
  obtain ⟨w1, e4⟩ := bl 4 (by omega) (by rw [hmap]; rfl)
  obtain ⟨n1, e5⟩ := int8 5 (by omega) (by rw [hmap]; rfl)
  obtain ⟨m2, e6⟩ := int8 6 (by omega) (by rw [hmap]; rfl)
  obtain ⟨w2, e7⟩ := bl 7 (by omega) (by rw [hmap]; rfl)
  obtain ⟨n2, e8⟩ := int8 8 (by omega) (by rw [hmap]; rfl)
  obtain ⟨m3, e9⟩ := int8 9 (by omega) (by rw [hmap]; rfl)
  obtain ⟨w3, e10⟩ := bl 10 (by omega) (by rw [hmap]; rfl)
  obtain ⟨n3, e11⟩ := int8 11 (by omega) (by rw [hmap]; rfl)
  refine ⟨cs, _, ⟨m0, m1, m2, m3, w0, w1, w2, w3, .ofNat n0, .ofNat n1, .ofNat n2, .ofNat n3⟩, hh, fun j a hj => ?_⟩
  match j, hj with
  | 0, hj => cases hj; exact ⟨_, e0, fun _ => rfl⟩
  | 1, hj => cases hj; exact ⟨_, e1, fun _ => rfl⟩
  | 2, hj => cases hj; exact ⟨_, e2, fun _ => rfl⟩
  | 3, hj => cases hj; exact ⟨_, e3, fun _ => rfl⟩
  | 4, hj => cases hj; exact ⟨_, e4, fun _ => rfl⟩
  | 5, hj => cases hj; exact ⟨_, e5, fun _ => rfl⟩
  | 6, hj => cases hj; exact ⟨_, e6, fun _ => rfl⟩
  | 7, hj => cases hj; exact ⟨_, e7, fun _ => rfl⟩
  | 8, hj => cases hj; exact ⟨_, e8, fun _ => rfl⟩
  | 9, hj => cases hj; exact ⟨_, e9, fun _ => rfl⟩
  | 10, hj => cases hj; exact ⟨_, e10, fun _ => rfl⟩
  | 11, hj => cases hj; exact ⟨_, e11, fun _ => rfl⟩
  | j + 12, hj => cases hj
theorem fields_typed {W : World} (h : W.ShapedOpen Tryz.prog) : ∃ (c : Array Value) (f : Nat × Nat), W.heap[1]? = some (.cells c 207 f) := by
  obtain ⟨zero, hz, hs⟩ := zero_at 1 207 22 (by kernel_rfl)
  obtain ⟨cs, hh, _⟩ := h.1 1 zero 207 (of_decide_eq_true (by kernel_rfl)) hz
  exact ⟨cs, _, hh⟩

theorem heads_typed {W : World} (h : W.ShapedOpen Tryz.prog) : ∃ (c : Array Value) (f : Nat × Nat), W.heap[0]? = some (.cells c 192 f) := by
  obtain ⟨zero, hz, hs⟩ := zero_at 0 192 32 (by kernel_rfl)
  obtain ⟨cs, hh, _⟩ := h.1 0 zero 192 (of_decide_eq_true (by kernel_rfl)) hz
  exact ⟨cs, _, hh⟩
theorem u191 : Tryz.prog.underlying 191 = some (.struct #[{ name := "change", type := 159, offset := 0, embedded := false, tag := "", pkgPath := "ragpicker/headers", byteOffset := 0 }, { name := "from", type := 188, offset := 1, embedded := false, tag := "", pkgPath := "ragpicker/headers", byteOffset := 1 }, { name := "to", type := 188, offset := 2, embedded := false, tag := "", pkgPath := "ragpicker/headers", byteOffset := 2 }, { name := "age", type := 189, offset := 3, embedded := false, tag := "", pkgPath := "ragpicker/headers", byteOffset := 8 }]) := by kernel_rfl
theorem u192 : Tryz.prog.underlying 192 = some (.array 8 191) := by kernel_rfl
theorem u159 : Tryz.prog.underlying 159 = some (.int .u8) := by kernel_rfl
theorem u188 : Tryz.prog.underlying 188 = some (.int .u8) := by kernel_rfl
theorem u189 : Tryz.prog.underlying 189 = some (.int .i64) := by kernel_rfl
theorem c191 : Tryz.prog.cellsOf 191 = 4 := by kernel_rfl
theorem c159 : Tryz.prog.cellsOf 159 = 1 := by kernel_rfl
theorem c188 : Tryz.prog.cellsOf 188 = 1 := by kernel_rfl
theorem c189 : Tryz.prog.cellsOf 189 = 1 := by kernel_rfl
theorem line_row {H : Type} {enc : TypeId × Value → H} {W : World} {base : Nat} {sp : Nat → Bool} {held : Bool} {fuel : Nat} {cs : List Value} {a b c d : Int} {p : List MemPlace} (h : DataW.trod enc Tryz.prog W base sp held fuel 191 cs = some (.agg [.lit (.int .u8 a), .lit (.int .u8 b), .lit (.int .u8 c), .lit (.int .i64 d)], p)) :
    cs = [.int .u8 a, .int .u8 b, .int .u8 c, .int .i64 d] := by
  obtain ⟨y0, y1, y2, y3, n, hx, hl, h0, h1, h2, h3⟩ := Go.Joins.trod_struct4 u191 h
  obtain ⟨n0, e0, rfl, _⟩ := DataW.trod_int u159 h0
  obtain ⟨n1, e1, rfl, _⟩ := DataW.trod_int u188 h1
  obtain ⟨n2, e2, rfl, _⟩ := DataW.trod_int u188 h2
  obtain ⟨n3, e3, rfl, _⟩ := DataW.trod_int u189 h3
  simp only [Prod.mk.injEq, DataW.agg.injEq, List.cons.injEq, DataW.lit.injEq, Lit.int.injEq, true_and, and_true] at hx
  obtain ⟨⟨rfl, rfl, rfl, rfl⟩, _⟩ := hx
  rw [c191] at hl
  simp only [c159, c188, c189] at e0 e1 e2 e3
  match cs, hl with
  | [v0, v1, v2, v3], _ =>
    simp at e0 e1 e2 e3
    subst e0 e1 e2 e3
    rfl
def quads : List (Int × Int × Int × Int) := [(1, 0, 1, 0), (2, 1, 2, 0), (3, 2, 0, 1), (4, 1, 0, 1), (5, 1, 4, 2), (5, 2, 4, 2), (6, 0, 3, 0), (7, 3, 0, 0)]
theorem lines_reads {W : World} (h : VarReads Tryz.prog W "ragpicker/headers.lines" Rows.laid_ragpicker_headers_lines) : ∃ c t f, W.heap[0]? = some (.cells c t f) ∧ ∀ i (hi : i < 8), c[4 * i]? = some (.int .u8 (quads[i]).1) ∧ c[4 * i + 1]? = some (.int .u8 (quads[i]).2.1) ∧ c[4 * i + 2]? = some (.int .u8 (quads[i]).2.2.1) ∧ c[4 * i + 3]? = some (.int .i64 (quads[i]).2.2.2) := by
  obtain ⟨g, t, cs, fuel, p, hg, hty, hvar, hd⟩ := h
  obtain rfl := Option.some.inj ((show Tryz.prog.globalNamed "ragpicker/headers.lines" = some 0 by kernel_rfl).symm.trans hg)
  obtain rfl := Option.some.inj ((show (Tryz.prog.globals[0]?).map (·.type) = some 192 by kernel_rfl).symm.trans hty)
  have hall : ∀ i (hi : i < 8), cs[4 * i]? = some (.int .u8 (quads[i]).1) ∧ cs[4 * i + 1]? = some (.int .u8 (quads[i]).2.1) ∧ cs[4 * i + 2]? = some (.int .u8 (quads[i]).2.2.1) ∧ cs[4 * i + 3]? = some (.int .i64 (quads[i]).2.2.2) := by
    intro i hi
    obtain ⟨fuel', d, q, hdi, he⟩ := array_elem u192 hd i hi
    rw [c191] at he
    have hdd : d = .agg [.lit (.int .u8 (quads[i]).1), .lit (.int .u8 (quads[i]).2.1), .lit (.int .u8 (quads[i]).2.2.1), .lit (.int .i64 (quads[i]).2.2.2)] := by
      have : i = 0 ∨ i = 1 ∨ i = 2 ∨ i = 3 ∨ i = 4 ∨ i = 5 ∨ i = 6 ∨ i = 7 := by omega
      rcases this with rfl | rfl | rfl | rfl | rfl | rfl | rfl | rfl <;> exact (Option.some.inj hdi).symm
    subst hdd
    have hcs := line_row he
    have e0 := congrArg (·[0]?) hcs
    have e1 := congrArg (·[1]?) hcs
    have e2 := congrArg (·[2]?) hcs
    have e3 := congrArg (·[3]?) hcs
    simp only [List.getElem?_take, List.getElem?_drop] at e0 e1 e2 e3
    refine ⟨?_, ?_, ?_, ?_⟩ <;> rw [← Array.getElem?_toList]
    · simpa [Nat.mul_comm] using e0
    · simpa [Nat.mul_comm] using e1
    · simpa [Nat.mul_comm] using e2
    · simpa [Nat.mul_comm] using e3
  have h0 := World.var?_cell hg hvar
  have hc : ∀ j, W.cell? ⟨0, j, none⟩ = cs[j]? := h0
  have h00 := (hall 0 (by omega)).1
  rw [← hc] at h00
  unfold World.cell? at hc h00
  cases hh : W.heap[0]? with
  | none => rw [hh] at h00; cases h00
  | some o =>
    cases o with
    | cells c t f =>
      refine ⟨c, t, f, rfl, fun i hi => ?_⟩
      have hcc : ∀ j, c[j]? = cs[j]? := fun j => by
        have := hc j
        rw [hh] at this
        simpa using this
      rw [hcc, hcc, hcc, hcc]
      exact hall i hi
    | _ => rw [hh] at h00; simp at h00

-- a slice of Stores
theorem u91 : Tryz.prog.underlying 91 = some (.struct #[{ name := "Addr", type := 84, offset := 0, embedded := false, tag := "", pkgPath := "", byteOffset := 0 }, { name := "Value", type := 23, offset := 3, embedded := false, tag := "", pkgPath := "", byteOffset := 24 }]) := by kernel_rfl
theorem u84 : Tryz.prog.underlying 84 = some (.struct #[{ name := "Kind", type := 82, offset := 0, embedded := false, tag := "", pkgPath := "", byteOffset := 0 }, { name := "At", type := 3, offset := 1, embedded := false, tag := "", pkgPath := "", byteOffset := 8 }, { name := "Field", type := 3, offset := 2, embedded := false, tag := "", pkgPath := "", byteOffset := 16 }]) := by kernel_rfl
theorem u82 : Tryz.prog.underlying 82 = some (.int .u8) := by kernel_rfl
theorem u3 : Tryz.prog.underlying 3 = some (.int .i64) := by kernel_rfl
theorem u23 : Tryz.prog.underlying 23 = some (.int .u64) := by kernel_rfl
theorem u22 : Tryz.prog.underlying 22 = some (.slice 91) := by kernel_rfl
theorem u4 : Tryz.prog.underlying 4 = some .bool := by kernel_rfl
theorem c91 : Tryz.prog.cellsOf 91 = 4 := by kernel_rfl
theorem c84 : Tryz.prog.cellsOf 84 = 3 := by kernel_rfl
theorem c82 : Tryz.prog.cellsOf 82 = 1 := by kernel_rfl
theorem c3 : Tryz.prog.cellsOf 3 = 1 := by kernel_rfl
theorem c23 : Tryz.prog.cellsOf 23 = 1 := by kernel_rfl
theorem store_row {H : Type} {enc : TypeId × Value → H} {W : World} {base : Nat} {sp : Nat → Bool} {held : Bool} {fuel : Nat} {cs : List Value} {x : DataW H × List MemPlace} (h : DataW.trod enc Tryz.prog W base sp held fuel 91 cs = some x) :
    ∃ k a f v, cs = [.int .u8 k, .int .i64 a, .int .i64 f, .int .u64 v] := by
  obtain ⟨y0, y1, n, rfl, hl, h0, h1⟩ := trod_struct2 u91 h
  obtain ⟨z0, z1, z2, m, rfl, hl2, g0, g1, g2⟩ := trod_struct3 u84 h0
  obtain ⟨k, e0, _, _⟩ := DataW.trod_int u82 g0
  obtain ⟨a, e1, _, _⟩ := DataW.trod_int u3 g1
  obtain ⟨f, e2, _, _⟩ := DataW.trod_int u3 g2
  obtain ⟨v, e3, _, _⟩ := DataW.trod_int u23 h1
  rw [c91] at hl
  simp only [c84, c82, c3, c23] at e0 e1 e2 e3
  match cs, hl with
  | [v0, v1, v2, v3], _ =>
    simp at e0 e1 e2 e3
    subst e0 e1 e2 e3
    exact ⟨k, a, f, v, rfl⟩

/-- Where nothing of a type lies. -/
theorem rowAt_no {p : Program} {fits : TypeId → Bool} {S : TypeId → Prop} (h1 : ∀ e, S e → fits e = false) (h2 : ∀ e m e', S e → p.underlying e = some (.array m e') → S e') (h3 : ∀ e fs, S e → p.underlying e = some (.struct fs) → ∀ f ∈ fs, S f.type) : ∀ d e count off n, S e → rowAt p fits d e count off n = false
  | 0, _, _, _, _, _ => rfl
  | d + 1, e, count, off, n, hs => by
    unfold rowAt
    simp only
    split
    · rfl
    · rw [h1 e hs]
      simp only [Bool.and_false, Bool.false_or, Bool.and_eq_false_iff]
      refine .inr ?_
      split
      · rename_i fs hu
        simp only [Bool.and_eq_false_iff]
        refine .inr ?_
        rw [Bool.eq_false_iff]
        intro ha
        rw [Array.any_eq_true'] at ha
        obtain ⟨f, hf, hx⟩ := ha
        simp only [Bool.and_eq_true] at hx
        rw [rowAt_no h1 h2 h3 d f.type _ _ _ (h3 e fs hs hu f hf)] at hx
        exact absurd hx.2 (by decide)
      · rename_i m e' hu
        exact rowAt_no h1 h2 h3 d e' _ _ _ (h2 e m e' hs hu)
      · rfl
theorem rowAt_off {p : Program} {fits : TypeId → Bool} {d e count off n : Nat} (h : rowAt p fits d e count off n = true) : off ≤ count * p.cellsOf e := by
  cases d with
  | zero => simp [rowAt] at h
  | succ d =>
    unfold rowAt at h
    simp only at h
    split at h
    · cases h
    · rename_i h0
      have hpos : 0 < p.cellsOf e := Nat.pos_of_ne_zero h0
      have hdm := Nat.div_add_mod off (p.cellsOf e)
      simp only [Bool.or_eq_true, Bool.and_eq_true, decide_eq_true_eq, beq_iff_eq] at h
      rcases h with ⟨⟨h1, h2⟩, _⟩ | ⟨h1, _⟩
      · have := Nat.mul_le_mul_right (p.cellsOf e) (show off / p.cellsOf e ≤ count by omega)
        rw [Nat.mul_comm] at hdm
        omega
      · have := Nat.mul_le_mul_right (p.cellsOf e) (show off / p.cellsOf e + 1 ≤ count by omega)
        have hm := Nat.mod_lt off hpos
        rw [Nat.add_mul] at this
        rw [Nat.mul_comm] at hdm
        omega
theorem lies91 {e count off n : Nat} (h : liesAt Tryz.prog Tryz.prog.depth e count off 91 n = true) : rowAt Tryz.prog (sameLayout Tryz.prog Tryz.prog.depth · 91) Tryz.prog.depth e count off n = true := by
  have hd : Tryz.prog.depth = (Tryz.prog.depth - 1) + 1 := (of_decide_eq_true (by kernel_rfl) : Tryz.prog.depth = (Tryz.prog.depth - 1) + 1)
  rw [hd] at h
  unfold liesAt at h
  rw [u91] at h
  simpa using h
end Go.Proofs.YtipkbcnibhnjdabGreatDoor

/-
A slice of Stores, opened.
-/
namespace Go.Proofs.YtipkbcnibhnjdabGreatDoor
open Go Go.Ev Go.Lib Go.ChangeShapes Go.WideShapes Go.Deep
set_option maxRecDepth 1000000

theorem cells_rows {c : Array Value} : ∀ (rows : List (List Int)) (o : Nat), (∀ i r, rows[i]? = some r → ∃ k a f v, r = [k, a, f, v] ∧ c[o + i * 4]? = some (.int .u8 k) ∧ c[o + i * 4 + 1]? = some (.int .i64 a) ∧ c[o + i * 4 + 2]? = some (.int .i64 f) ∧ c[o + i * 4 + 3]? = some (.int .u64 v)) →
    ∀ j a, at? (rows.flatMap (rowCells (layOf 0))) j = some a → ∃ u, c[o + j]? = some u ∧ ∀ ψ, VR ψ a u
  | [], _, _, j, a, hj => by simp [at?] at hj
  | r :: rows, o, h, j, a, hj => by
    obtain ⟨k, x, f, v, rfl, h0, h1, h2, h3⟩ := h 0 r rfl
    rw [Nat.zero_mul, Nat.add_zero] at h0 h1 h2 h3
    have hj : at? (AV.int .u8 k :: AV.int .i64 x :: AV.int .i64 f :: AV.int .u64 v :: rows.flatMap (rowCells (layOf 0))) j = some a := hj
    match j, hj with
    | 0, hj => cases hj; exact ⟨_, h0, fun _ => rfl⟩
    | 1, hj => cases hj; exact ⟨_, h1, fun _ => rfl⟩
    | 2, hj => cases hj; exact ⟨_, h2, fun _ => rfl⟩
    | 3, hj => cases hj; exact ⟨_, h3, fun _ => rfl⟩
    | j + 4, hj =>
      have hj : at? (rows.flatMap (rowCells (layOf 0))) j = some a := hj
      have := cells_rows rows (o + 4) (fun i r hr => by
        obtain ⟨k, x, f, v, e, g0, g1, g2, g3⟩ := h (i + 1) r hr
        have e4 : o + 4 + i * 4 = o + (i + 1) * 4 := by omega
        rw [e4]
        exact ⟨k, x, f, v, e, g0, g1, g2, g3⟩) j a hj
      rw [show o + (j + 4) = o + 4 + j by omega]
      exact this
def rowAtI (c : Array Value) (o : Nat) (r : List Int) : Prop := ∃ k a f v, r = [k, a, f, v] ∧ c[o]? = some (.int .u8 k) ∧ c[o + 1]? = some (.int .i64 a) ∧ c[o + 2]? = some (.int .i64 f) ∧ c[o + 3]? = some (.int .u64 v)
theorem rows_choice {c : Array Value} {o n : Nat} (h : ∀ i, i < n → ∃ r, rowAtI c (o + i * 4) r) : ∃ rows : List (List Int), rows.length = n ∧ ∀ i r, rows[i]? = some r → rowAtI c (o + i * 4) r := by
  induction n with
  | zero => exact ⟨[], rfl, fun i r hr => by simp at hr⟩
  | succ n ih =>
    obtain ⟨rows, h1, h2⟩ := ih fun i hi => h i (by omega)
    obtain ⟨r, hr⟩ := h n (by omega)
    refine ⟨rows ++ [r], by simp [h1], fun i r' hi => ?_⟩
    by_cases hlt : i < rows.length
    · rw [List.getElem?_append_left hlt] at hi; exact h2 i r' hi
    · rw [List.getElem?_append_right (by omega)] at hi
      have : i = n := by
        have := (List.getElem?_eq_some_iff.1 hi).1
        simp at this
        omega
      subst this
      simp [h1] at hi
      subst hi
      exact hr
theorem no207 {count off n : Nat} : ¬ rowAt Tryz.prog (sameLayout Tryz.prog Tryz.prog.depth · 91) Tryz.prog.depth 207 count off n = true := by
  rw [rowAt_no (S := fun e => e = 207 ∨ e = 206 ∨ e = 205) ?_ ?_ ?_ _ _ _ _ _ (.inl rfl)]
  · decide
  · rintro e (rfl | rfl | rfl) <;> kernel_rfl
  · rintro e m e' (rfl | rfl | rfl) hu
    · rw [u207] at hu; cases hu; exact .inr (.inl rfl)
    · rw [u206] at hu; cases hu
    · rw [u205] at hu; cases hu
  · rintro e fs (rfl | rfl | rfl) hu f hf
    · rw [u207] at hu; cases hu
    · rw [u206] at hu; cases hu
      simp at hf
      rcases hf with rfl | rfl <;> exact .inr (.inr rfl)
    · rw [u205] at hu; cases hu
theorem u323 : Tryz.prog.underlying 323 = some (.array 4 320) := by kernel_rfl
theorem u320 : Tryz.prog.underlying 320 = some (.struct #[{ name := "mode", type := 318, offset := 0, embedded := false, tag := "", pkgPath := "ragpicker/phases", byteOffset := 0 }, { name := "waits", type := 4, offset := 1, embedded := false, tag := "", pkgPath := "ragpicker/phases", byteOffset := 1 }, { name := "next", type := 144, offset := 2, embedded := false, tag := "", pkgPath := "ragpicker/phases", byteOffset := 2 }]) := by kernel_rfl
theorem u318 : Tryz.prog.underlying 318 = some (.int .u8) := by kernel_rfl
theorem u144 : Tryz.prog.underlying 144 = some (.int .u8) := by kernel_rfl
theorem no323 {count off n : Nat} : ¬ rowAt Tryz.prog (sameLayout Tryz.prog Tryz.prog.depth · 91) Tryz.prog.depth 323 count off n = true := by
  rw [rowAt_no (S := fun e => e = 323 ∨ e = 320 ∨ e = 318 ∨ e = 4 ∨ e = 144) ?_ ?_ ?_ _ _ _ _ _ (.inl rfl)]
  · decide
  · rintro e (rfl | rfl | rfl | rfl | rfl) <;> kernel_rfl
  · rintro e m e' (rfl | rfl | rfl | rfl | rfl) hu
    · rw [u323] at hu; cases hu; exact .inr (.inl rfl)
    · rw [u320] at hu; cases hu
    · rw [u318] at hu; cases hu
    · rw [u4] at hu; cases hu
    · rw [u144] at hu; cases hu
  · rintro e fs (rfl | rfl | rfl | rfl | rfl) hu f hf
    · rw [u323] at hu; cases hu
    · rw [u320] at hu; cases hu
      simp at hf
      rcases hf with rfl | rfl | rfl
      · exact .inr (.inr (.inl rfl))
      · exact .inr (.inr (.inr (.inl rfl)))
      · exact .inr (.inr (.inr (.inr rfl)))
    · rw [u318] at hu; cases hu
    · rw [u4] at hu; cases hu
    · rw [u144] at hu; cases hu
theorem no192 {count off n : Nat} : ¬ rowAt Tryz.prog (sameLayout Tryz.prog Tryz.prog.depth · 91) Tryz.prog.depth 192 count off n = true := by
  rw [rowAt_no (S := fun e => e = 192 ∨ e = 191 ∨ e = 159 ∨ e = 188 ∨ e = 189) ?_ ?_ ?_ _ _ _ _ _ (.inl rfl)]
  · decide
  · rintro e (rfl | rfl | rfl | rfl | rfl) <;> kernel_rfl
  · rintro e m e' (rfl | rfl | rfl | rfl | rfl) hu
    · rw [u192] at hu; cases hu; exact .inr (.inl rfl)
    · rw [u191] at hu; cases hu
    · rw [u159] at hu; cases hu
    · rw [u188] at hu; cases hu
    · rw [u189] at hu; cases hu
  · rintro e fs (rfl | rfl | rfl | rfl | rfl) hu f hf
    · rw [u192] at hu; cases hu
    · rw [u191] at hu; cases hu
      simp at hf
      rcases hf with rfl | rfl | rfl | rfl
      · exact .inr (.inr (.inl rfl))
      · exact .inr (.inr (.inr (.inl rfl)))
      · exact .inr (.inr (.inr (.inl rfl)))
      · exact .inr (.inr (.inr (.inr rfl)))
    · rw [u159] at hu; cases hu
    · rw [u188] at hu; cases hu
    · rw [u189] at hu; cases hu
theorem slice_has {W : World} {base : Nat} {a : Option Addr} {len cap : Nat} (h : Value.okWide Tryz.prog W .any base 22 (.slice a len cap)) : (a = none ∧ len = 0 ∧ cap = 0) ∨ ∃ x, a = some x ∧ W.has Tryz.prog .any base x 91 cap := by
  simp only [Value.okWide, u22, Cell.okWide] at h
  unfold Cell.ok at h
  rw [u22] at h
  cases a with
  | none =>
    cases len with
    | zero => cases cap with
      | zero => exact .inl ⟨rfl, rfl, rfl⟩
      | succ n => simp at h
    | succ n => simp at h
  | some x =>
    simp at h
    exact .inr ⟨x, rfl, h.2.2⟩
theorem open_store {H : Type} {enc : TypeId × Value → H} {W : World} {base : Nat} {v : Value} {d : DataW H} {ps : List MemPlace} (hval : Value.okWide Tryz.prog W .any base 22 v) (hd : DataW.Trod enc Tryz.prog W 0 (fun _ => true) true 22 v d ps) (hSh : W.ShapedOpen Tryz.prog) :
    v = .slice none 0 0 ∨ ∃ (b off len cap : Nat) (rows : List (List Int)) (c : Array Value) (t : TypeId) (f : Nat × Nat), v = .slice (some ⟨b, off, none⟩) len cap ∧ len ≤ cap ∧ rows.length = len ∧ 3 ≤ b ∧ W.heap[b]? = some (.cells c t f) ∧ off + cap * 4 ≤ c.size ∧ ∀ j a, at? (rows.flatMap (rowCells (layOf 0))) j = some a → ∃ u, c[off + j]? = some u ∧ ∀ ψ, VR ψ a u := by
  obtain ⟨a0, len, cap, rfl⟩ := okWide_slice u22 hval
  rcases slice_has hval with ⟨rfl, rfl, rfl⟩ | ⟨x, rfl, _, hspot, row, cells, hshape, hlies⟩
  · exact .inl rfl
  right
  obtain ⟨b, off, spot⟩ := x
  have hspot : spot = none := hspot
  subst hspot
  have hrow := lies91 hlies
  obtain ⟨fuel, hf⟩ := hd
  rcases DataW.trod_slice u22 hf with ⟨h0, _⟩ | ⟨a, len1, cap1, elems, rest, n, _, hcs, _, _, hl, _, hlen, hel, hsp, _⟩
  · simp [Value.cells] at h0
  have hcs : Value.slice (some ⟨b, off, none⟩) len cap = .slice (some a) len1 cap1 := by simpa [Value.cells] using hcs
  cases hcs
  obtain ⟨hrl, hr⟩ := hsp rfl
  unfold World.shape? at hshape
  cases hh : W.heap[b]? with
  | none => rw [hh] at hshape; cases hshape
  | some o =>
    cases o with
    | cells c t f =>
      rw [hh] at hshape
      have hst : t = row ∧ c.size = cells := by simpa using hshape
      obtain ⟨rfl, rfl⟩ := hst
      have hb2 : 3 ≤ b := by
        rcases Nat.lt_or_ge b 3 with hlt | hge
        · exfalso
          have : b = 0 ∨ b = 1 ∨ b = 2 := by omega
          rcases this with rfl | rfl | rfl
          · obtain ⟨c', f', h'⟩ := heads_typed hSh
            rw [hh] at h'
            cases h'
            exact no192 hrow
          · obtain ⟨c', f', h'⟩ := fields_typed hSh
            rw [hh] at h'
            cases h'
            exact no207 hrow
          · obtain ⟨c', f', _, h', _⟩ := phases_shaped hSh
            rw [hh] at h'
            cases h'
            exact no323 hrow
        · exact hge
      have each : ∀ i, i < cap → ∃ r, rowAtI c (off + i * 4) r := by
        intro i hi
        obtain ⟨y, hy⟩ : ∃ y, (W.cells? 0 ((⟨b, off, none⟩ : Addr).add (i * Tryz.prog.cellsOf 91)) (Tryz.prog.cellsOf 91)).bind (DataW.trod enc Tryz.prog W 0 (fun _ => true) true n 91) = some y := by
          by_cases h1 : i < len
          · exact ⟨elems[i]'(by omega), by rw [hel i h1]; exact List.getElem?_eq_getElem (by omega)⟩
          · have h2 : i - len < rest.length := by omega
            have := hr (i - len) (by omega)
            rw [show len + (i - len) = i by omega] at this
            exact ⟨rest[i - len], by rw [this]; exact List.getElem?_eq_getElem h2⟩
        obtain ⟨cs, hcs, hy⟩ := Option.bind_eq_some_iff.1 hy
        obtain ⟨k, a, fl, v, rfl⟩ := store_row hy
        obtain ⟨_, _, hcell⟩ := World.cells?_some hcs
        rw [c91, add_plain] at hcell
        have cell : ∀ x, x < 4 → c[off + i * 4 + x]? = ([Value.int .u8 k, .int .i64 a, .int .i64 fl, .int .u64 v] : List Value)[x]? := fun x hx => by
          have := hcell x hx
          rw [add_plain, cell_of_heap hh] at this
          exact this
        exact ⟨_, k, a, fl, v, rfl, cell 0 (by omega), cell 1 (by omega), cell 2 (by omega), cell 3 (by omega)⟩
      obtain ⟨rows, h1, h2⟩ := rows_choice (n := len) fun i hi => each i (by omega)
      refine ⟨b, off, len, cap, rows, c, t, f, rfl, hl, h1, hb2, hh, ?_, cells_rows rows off h2⟩
      cases cap with
      | zero =>
        have : off ≤ _ := rowAt_off hrow
        have := Nat.div_mul_le_self c.size (Tryz.prog.cellsOf t)
        omega
      | succ m =>
        obtain ⟨r, k, a, fl, v, _, _, _, _, h3⟩ := each m (by omega)
        have := (Array.getElem?_eq_some_iff.1 h3).1
        omega
    | _ => rw [hh] at hshape; cases hshape

theorem rows_length (rows : List (List Int)) : (rows.flatMap (rowCells (layOf 0))).length = rows.length * 4 := by
  induction rows with
  | nil => rfl
  | cons r rows ih =>
    simp only [List.flatMap_cons, List.length_append, ih, List.length_cons]
    show 4 + _ = _
    omega
theorem kids : Kids Tryz.prog (fun t => t = 22 ∨ t = 91 ∨ t = 84 ∨ t = 82 ∨ t = 3 ∨ t = 23) where
  pointer := fun h hu => by rcases h with rfl | rfl | rfl | rfl | rfl | rfl <;> simp [u22, u91, u84, u82, u3, u23] at hu
  slice := fun h hu => by
    rcases h with rfl | rfl | rfl | rfl | rfl | rfl <;> simp [u22, u91, u84, u82, u3, u23] at hu
    exact .inr (.inl hu.symm)
  array := fun h hu => by rcases h with rfl | rfl | rfl | rfl | rfl | rfl <;> simp [u22, u91, u84, u82, u3, u23] at hu
  map := fun h hu => by rcases h with rfl | rfl | rfl | rfl | rfl | rfl <;> simp [u22, u91, u84, u82, u3, u23] at hu
  struct := fun h hu => by
    rcases h with rfl | rfl | rfl | rfl | rfl | rfl
    · rw [u22] at hu; cases hu
    · rw [u91] at hu
      cases hu
      refine ⟨fun f hf => ?_, by simp [c91, c84, c23], fun j f hj => ?_⟩
      · simp at hf; rcases hf with rfl | rfl <;> simp
      · match j, hj with
        | 0, hj => simp at hj; subst hj; rfl
        | 1, hj => simp at hj; subst hj; simp [c84]
        | j + 2, hj => simp at hj
    · rw [u84] at hu
      cases hu
      refine ⟨fun f hf => ?_, by simp [c84, c82, c3], fun j f hj => ?_⟩
      · simp at hf; rcases hf with rfl | rfl | rfl <;> simp
      · match j, hj with
        | 0, hj => simp at hj; subst hj; rfl
        | 1, hj => simp at hj; subst hj; simp [c82]
        | 2, hj => simp at hj; subst hj; simp [c82, c3]
        | j + 3, hj => simp at hj
    · rw [u82] at hu; cases hu
    · rw [u3] at hu; cases hu
    · rw [u23] at hu; cases hu
theorem slice_stays {H : Type} {enc : TypeId × Value → H} {W W' : World} {sp : Nat → Bool} {v : Value} {d : DataW H} {ps : List MemPlace} (h : DataW.Trod enc Tryz.prog W 0 (fun _ => true) true 22 v d ps) (hsame : ∀ p ∈ ps, W.sameAt W' p) (hs : ∀ p ∈ ps, sp p.block = true) : DataW.Trod enc Tryz.prog W' 0 sp true 22 v d ps := by
  obtain ⟨fuel, hf⟩ := h
  refine ⟨fuel, DataW.trod_stays kids (fun {t e} ht hu => ?_) (fun h => by cases h) (.inl rfl) hf hsame hs⟩
  rcases ht with rfl | rfl | rfl | rfl | rfl | rfl <;> simp [u22, u91, u84, u82, u3, u23] at hu
  subst hu
  rw [c91]
  decide
end Go.Proofs.YtipkbcnibhnjdabGreatDoor
