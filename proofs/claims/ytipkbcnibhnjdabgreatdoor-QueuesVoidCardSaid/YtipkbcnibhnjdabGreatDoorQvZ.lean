/-
QueuesVoid returns true of any words, any value, and leaves all that was there as it was. Condition: words.fields reads as its initialiser lays it (the card ties that to the text).
-/
import Derived.Test.YtipkbcnibhnjdabGreatDoorQvRS
import Derived.Test.YtipkbcnibhnjdabGreatDoorQvV
import Derived.Test.YtipkbcnibhnjdabGreatDoorCards
import Derived.Test.YtipkbcnibhnjdabGreatDoorTie
import Derived.SevenTiedAt
set_option linter.unusedVariables false
set_option linter.unusedSimpArgs false
namespace Go.Proofs.YtipkbcnibhnjdabGreatDoor
open Go Go.Ev Go.Lib Go.ChangeShapes Go.WideShapes Go.RowKit
set_option maxRecDepth 1000000
theorem own : ownKnob Tryz.prog.godebug = none := by kernel_rfl

/-- A world in which the one listed variable lies as its initialiser lays it. -/
noncomputable def laidWorld (os : Os) : World :=
  let w0 := World.holding Tryz.prog os ⟨#[], #[], []⟩
  { w0 with heap := (w0.heap.modify 1 fun
      | .cells _ t frozen => .cells (pairs.flatMap fun x => [Value.int .u64 x.1, Value.int .u64 x.2]).toArray t frozen
      | o => o).modify 0 fun
      | .cells _ t frozen => .cells (quads.flatMap fun x => [Value.int .u8 x.1, Value.int .u8 x.2.1, Value.int .u8 x.2.2.1, Value.int .i64 x.2.2.2]).toArray t frozen
      | o => o }
theorem laid_met (os : Os) (args : Array Value) : laidMet Tryz.prog Rows.queuesVoidRow.laid ((laidWorld os).forCall (fun _ _ => 0) ⟨#[], args, []⟩).memory :=
  (LaidIn.of_run [1, 0] 8 (by kernel_rfl) (by kernel_rfl) (by kernel_rfl) (by kernel_rfl)).met
def args0 : Array Value := #[.slice none 0 0, .int .u64 0]
theorem witness_row (os : Os) {H : Type} (enc : TypeId × Value → H) :
    (OpenSpec.ofChange Rows.queuesVoidSpec).preRow enc Tryz.prog Tryz.f3 Rows.queuesVoidRow.domain false Rows.queuesVoidRow.laid ((laidWorld os).forCall (fun _ _ => 0) ⟨#[], args0, []⟩).memory args0 := by
  have hw : (DataW.whole enc Tryz.prog ((laidWorld os).forCall (fun _ _ => 0) ⟨#[], args0, []⟩).memory Tryz.f3.params.toList (OpenSpec.ofChange Rows.queuesVoidSpec).vars false args0.toList 8).map (fun x => (x.1, x.2.1)) =
      some ([.nil, .lit (.int .u64 0)], []) := by kernel_rfl
  obtain ⟨⟨x1, x2, x3⟩, hx, hx1⟩ := Option.map_eq_some_iff.1 hw
  simp only [Prod.mk.injEq] at hx1
  obtain ⟨rfl, rfl⟩ := hx1
  exact OpenSpec.preRow_of_cond 8 hx (by kernel_rfl) (fun k hk => by cases hk) (by kernel_rfl) (laid_met os _)

theorem lifted (os : Os) (started : os.Started) (H : Type) (enc : TypeId × Value → H) (F : Stop.Interp) :
    ReturnsInHanded {} Tryz.checked os 3 .any ((OpenSpec.ofChange Rows.queuesVoidSpec).preRow enc Tryz.prog Tryz.f3 Rows.queuesVoidRow.domain false Rows.queuesVoidRow.laid) (((OpenSpec.ofChange Rows.queuesVoidSpec).at F).post enc Tryz.prog Tryz.f3 false true false false) := by
  refine returnsInHanded_of_row (C := Tryz.checked) (s := OpenSpec.ofChange Rows.queuesVoidSpec) own started (by kernel_rfl) Tryz.func3
    (witness_row_atRef (enc := enc) (C := Tryz.checked) false (laidWorld os) args0 rfl (by kernel_rfl) (by kernel_rfl) (by kernel_rfl) (witness_row os enc)) ?_
  intro W base args ds gs before hval0 hW hcnd0 _ _ hL hSh _
  clear hcnd0
  have hval : ∀ (j : Nat) t v, Tryz.f3.params[j]? = some t → args[j]? = some v → Value.okWide Tryz.prog W .any base t v := hval0
  have hW' := hW
  obtain ⟨p, q', hA0, hV0, rfl, _, _⟩ := hW
  have hA : DataW.TrodAll enc Tryz.prog W 0 (fun _ => true) true Tryz.f3.params.toList args.toList ds p := hA0
  have hpar : Tryz.f3.params = #[22, 23] := by kernel_rfl
  rw [hpar] at hA hval
  have hlt := hA.lt
  obtain ⟨v0, v1, d0, d1, p0, p1, rfl, rfl, rfl, hs0, h2⟩ := trodAll_two hA
  obtain ⟨rfl, rfl⟩ := trodVars_none hV0
  obtain ⟨k, rfl, rfl, rfl, wk⟩ := open_int u23 (hval 1 23 v1 rfl rfl) h2
  have hv0 := hval 0 22 v0 rfl rfl
  clear hA0 hV0 hval0 hval
  have hL' : laidMet Tryz.prog Rows.queuesVoidRow.laid W := hL
  obtain ⟨c, t, f, hc, hcc⟩ := fields_reads (Lib.laidMet.reads hL' (.head _))
  obtain ⟨ch, th, fh, hch, hhc⟩ := lines_reads (Lib.laidMet.reads hL' (.tail _ (.head _)))
  obtain ⟨c', f', pt, hc', hpt⟩ := phases_shaped hSh
  have hgs : Tryz.prog.globals.size = 3 := by kernel_rfl
  have hg : Tryz.prog.globals.size ≤ W.heap.size := by
    have := (Array.getElem?_eq_some_iff.1 hc').1
    omega
  have hglob : ∀ g cs, (g, cs) ∈ [(0, h0), (1, g0), (2, pt.cells)] → g < Tryz.prog.globals.size ∧ ∃ c t f, W.heap[g]? = some (.cells c t f) ∧ ∀ (j : Nat) a, at? cs j = some a → ∃ v, c[j]? = some v ∧ ∀ ψ, VR ψ a v := by
    intro g cs hmem
    simp only [List.mem_cons, Prod.mk.injEq, List.mem_nil_iff, or_false] at hmem
    rcases hmem with ⟨rfl, rfl⟩ | ⟨rfl, rfl⟩ | ⟨rfl, rfl⟩
    · refine ⟨of_decide_eq_true (by kernel_rfl), ch, th, fh, hch, ?_⟩
      intro j a hj
      match j, hj with
      | 0, hj => obtain rfl := Option.some.inj (show some (z8 1) = some a from hj); exact ⟨_, (hhc 0 (by omega)).1, fun _ => rfl⟩
      | 1, hj => obtain rfl := Option.some.inj (show some (z8 0) = some a from hj); exact ⟨_, (hhc 0 (by omega)).2.1, fun _ => rfl⟩
      | 2, hj => obtain rfl := Option.some.inj (show some (z8 1) = some a from hj); exact ⟨_, (hhc 0 (by omega)).2.2.1, fun _ => rfl⟩
      | 3, hj => obtain rfl := Option.some.inj (show some (z64 0) = some a from hj); exact ⟨_, (hhc 0 (by omega)).2.2.2, fun _ => rfl⟩
      | 4, hj => obtain rfl := Option.some.inj (show some (z8 2) = some a from hj); exact ⟨_, (hhc 1 (by omega)).1, fun _ => rfl⟩
      | 5, hj => obtain rfl := Option.some.inj (show some (z8 1) = some a from hj); exact ⟨_, (hhc 1 (by omega)).2.1, fun _ => rfl⟩
      | 6, hj => obtain rfl := Option.some.inj (show some (z8 2) = some a from hj); exact ⟨_, (hhc 1 (by omega)).2.2.1, fun _ => rfl⟩
      | 7, hj => obtain rfl := Option.some.inj (show some (z64 0) = some a from hj); exact ⟨_, (hhc 1 (by omega)).2.2.2, fun _ => rfl⟩
      | 8, hj => obtain rfl := Option.some.inj (show some (z8 3) = some a from hj); exact ⟨_, (hhc 2 (by omega)).1, fun _ => rfl⟩
      | 9, hj => obtain rfl := Option.some.inj (show some (z8 2) = some a from hj); exact ⟨_, (hhc 2 (by omega)).2.1, fun _ => rfl⟩
      | 10, hj => obtain rfl := Option.some.inj (show some (z8 0) = some a from hj); exact ⟨_, (hhc 2 (by omega)).2.2.1, fun _ => rfl⟩
      | 11, hj => obtain rfl := Option.some.inj (show some (z64 1) = some a from hj); exact ⟨_, (hhc 2 (by omega)).2.2.2, fun _ => rfl⟩
      | 12, hj => obtain rfl := Option.some.inj (show some (z8 4) = some a from hj); exact ⟨_, (hhc 3 (by omega)).1, fun _ => rfl⟩
      | 13, hj => obtain rfl := Option.some.inj (show some (z8 1) = some a from hj); exact ⟨_, (hhc 3 (by omega)).2.1, fun _ => rfl⟩
      | 14, hj => obtain rfl := Option.some.inj (show some (z8 0) = some a from hj); exact ⟨_, (hhc 3 (by omega)).2.2.1, fun _ => rfl⟩
      | 15, hj => obtain rfl := Option.some.inj (show some (z64 1) = some a from hj); exact ⟨_, (hhc 3 (by omega)).2.2.2, fun _ => rfl⟩
      | 16, hj => obtain rfl := Option.some.inj (show some (z8 5) = some a from hj); exact ⟨_, (hhc 4 (by omega)).1, fun _ => rfl⟩
      | 17, hj => obtain rfl := Option.some.inj (show some (z8 1) = some a from hj); exact ⟨_, (hhc 4 (by omega)).2.1, fun _ => rfl⟩
      | 18, hj => obtain rfl := Option.some.inj (show some (z8 4) = some a from hj); exact ⟨_, (hhc 4 (by omega)).2.2.1, fun _ => rfl⟩
      | 19, hj => obtain rfl := Option.some.inj (show some (z64 2) = some a from hj); exact ⟨_, (hhc 4 (by omega)).2.2.2, fun _ => rfl⟩
      | 20, hj => obtain rfl := Option.some.inj (show some (z8 5) = some a from hj); exact ⟨_, (hhc 5 (by omega)).1, fun _ => rfl⟩
      | 21, hj => obtain rfl := Option.some.inj (show some (z8 2) = some a from hj); exact ⟨_, (hhc 5 (by omega)).2.1, fun _ => rfl⟩
      | 22, hj => obtain rfl := Option.some.inj (show some (z8 4) = some a from hj); exact ⟨_, (hhc 5 (by omega)).2.2.1, fun _ => rfl⟩
      | 23, hj => obtain rfl := Option.some.inj (show some (z64 2) = some a from hj); exact ⟨_, (hhc 5 (by omega)).2.2.2, fun _ => rfl⟩
      | 24, hj => obtain rfl := Option.some.inj (show some (z8 6) = some a from hj); exact ⟨_, (hhc 6 (by omega)).1, fun _ => rfl⟩
      | 25, hj => obtain rfl := Option.some.inj (show some (z8 0) = some a from hj); exact ⟨_, (hhc 6 (by omega)).2.1, fun _ => rfl⟩
      | 26, hj => obtain rfl := Option.some.inj (show some (z8 3) = some a from hj); exact ⟨_, (hhc 6 (by omega)).2.2.1, fun _ => rfl⟩
      | 27, hj => obtain rfl := Option.some.inj (show some (z64 0) = some a from hj); exact ⟨_, (hhc 6 (by omega)).2.2.2, fun _ => rfl⟩
      | 28, hj => obtain rfl := Option.some.inj (show some (z8 7) = some a from hj); exact ⟨_, (hhc 7 (by omega)).1, fun _ => rfl⟩
      | 29, hj => obtain rfl := Option.some.inj (show some (z8 3) = some a from hj); exact ⟨_, (hhc 7 (by omega)).2.1, fun _ => rfl⟩
      | 30, hj => obtain rfl := Option.some.inj (show some (z8 0) = some a from hj); exact ⟨_, (hhc 7 (by omega)).2.2.1, fun _ => rfl⟩
      | 31, hj => obtain rfl := Option.some.inj (show some (z64 0) = some a from hj); exact ⟨_, (hhc 7 (by omega)).2.2.2, fun _ => rfl⟩
      | j + 32, hj => exact nomatch (show (none : Option AV) = some a from hj)
    · refine ⟨of_decide_eq_true (by kernel_rfl), c, t, f, hc, ?_⟩
      intro j a hj
      match j, hj with
      | 0, hj => obtain rfl := Option.some.inj (show some (zu 0) = some a from hj); exact ⟨_, (hcc 0 (by omega)).1, fun _ => rfl⟩
      | 1, hj => obtain rfl := Option.some.inj (show some (zu 16) = some a from hj); exact ⟨_, (hcc 0 (by omega)).2, fun _ => rfl⟩
      | 2, hj => obtain rfl := Option.some.inj (show some (zu 16) = some a from hj); exact ⟨_, (hcc 1 (by omega)).1, fun _ => rfl⟩
      | 3, hj => obtain rfl := Option.some.inj (show some (zu 32) = some a from hj); exact ⟨_, (hcc 1 (by omega)).2, fun _ => rfl⟩
      | 4, hj => obtain rfl := Option.some.inj (show some (zu 16) = some a from hj); exact ⟨_, (hcc 2 (by omega)).1, fun _ => rfl⟩
      | 5, hj => obtain rfl := Option.some.inj (show some (zu 48) = some a from hj); exact ⟨_, (hcc 2 (by omega)).2, fun _ => rfl⟩
      | 6, hj => obtain rfl := Option.some.inj (show some (zu 0) = some a from hj); exact ⟨_, (hcc 3 (by omega)).1, fun _ => rfl⟩
      | 7, hj => obtain rfl := Option.some.inj (show some (zu 3) = some a from hj); exact ⟨_, (hcc 3 (by omega)).2, fun _ => rfl⟩
      | 8, hj => obtain rfl := Option.some.inj (show some (zu 3) = some a from hj); exact ⟨_, (hcc 4 (by omega)).1, fun _ => rfl⟩
      | 9, hj => obtain rfl := Option.some.inj (show some (zu 32) = some a from hj); exact ⟨_, (hcc 4 (by omega)).2, fun _ => rfl⟩
      | 10, hj => obtain rfl := Option.some.inj (show some (zu 0) = some a from hj); exact ⟨_, (hcc 5 (by omega)).1, fun _ => rfl⟩
      | 11, hj => obtain rfl := Option.some.inj (show some (zu 3) = some a from hj); exact ⟨_, (hcc 5 (by omega)).2, fun _ => rfl⟩
      | 12, hj => obtain rfl := Option.some.inj (show some (zu 3) = some a from hj); exact ⟨_, (hcc 6 (by omega)).1, fun _ => rfl⟩
      | 13, hj => obtain rfl := Option.some.inj (show some (zu 3) = some a from hj); exact ⟨_, (hcc 6 (by omega)).2, fun _ => rfl⟩
      | 14, hj => obtain rfl := Option.some.inj (show some (zu 6) = some a from hj); exact ⟨_, (hcc 7 (by omega)).1, fun _ => rfl⟩
      | 15, hj => obtain rfl := Option.some.inj (show some (zu 3) = some a from hj); exact ⟨_, (hcc 7 (by omega)).2, fun _ => rfl⟩
      | 16, hj => obtain rfl := Option.some.inj (show some (zu 16) = some a from hj); exact ⟨_, (hcc 8 (by omega)).1, fun _ => rfl⟩
      | 17, hj => obtain rfl := Option.some.inj (show some (zu 48) = some a from hj); exact ⟨_, (hcc 8 (by omega)).2, fun _ => rfl⟩
      | 18, hj => obtain rfl := Option.some.inj (show some (zu 0) = some a from hj); exact ⟨_, (hcc 9 (by omega)).1, fun _ => rfl⟩
      | 19, hj => obtain rfl := Option.some.inj (show some (zu 32) = some a from hj); exact ⟨_, (hcc 9 (by omega)).2, fun _ => rfl⟩
      | 20, hj => obtain rfl := Option.some.inj (show some (zu 32) = some a from hj); exact ⟨_, (hcc 10 (by omega)).1, fun _ => rfl⟩
      | 21, hj => obtain rfl := Option.some.inj (show some (zu 1) = some a from hj); exact ⟨_, (hcc 10 (by omega)).2, fun _ => rfl⟩
      | j + 22, hj => exact nomatch (show (none : Option AV) = some a from hj)
    · exact ⟨of_decide_eq_true (by kernel_rfl), c', 323, f', hc', hpt⟩
  have fin : Calls Tryz.prog 3 #[v0, .int .u64 k] W (PostV W) := by
    rcases open_store hv0 hs0 hSh with rfl | ⟨b, off, len, cap, rows, cb, tb, fb, rfl, hlc, hrl, hb, hh, hsz, hcells⟩
    · exact calls_nil pt k (Rep.empty hg hglob)
    · subst hrl
      have hφ : (fun i : Pos => if i.toNat = 1 then some (b, off, cap * 4) else none) (q 1) = some (b, off, cap * 4) := if_pos rfl
      refine calls_rows pt rows k (φ := fun i => if i.toNat = 1 then some (b, off, cap * 4) else none) ⟨?_, ?_, ?_, hg, hglob⟩ ?_
      · intro i o hi
        obtain ⟨rfl, rfl⟩ := get_ro hi
        refine ⟨b, off, cap * 4, hφ, by omega, _, hh, cb, tb, fb, rfl, hsz, ?_, fun j a hj => ?_⟩
        · rw [rows_length]
          exact Nat.mul_le_mul_right 4 hlc
        · obtain ⟨u, g1, g2⟩ := hcells j a hj
          exact ⟨u, g1, g2 _⟩
      · intro i j o o' _ _ _ _ _ hi hj _ _
        rw [(get_ro hi).1, (get_ro hj).1]
      · intro i hi
        have hi : 2 ≤ i.toNat := hi
        exact if_neg (by omega)
      · exact ⟨b, off, cap * 4, cap, 0, hφ, rfl, hlc, by omega, fun _ => rfl, fun x hx => by cases hx⟩
  have eq1 : ((OpenSpec.ofChange Rows.queuesVoidSpec).at F).fn H ([d0, .lit (.int .u64 k)] ++ []) = { results := [.lit (.bool true)], args := [d0, .lit (.int .u64 k)] } := rfl
  refine fin.mono fun e W' ⟨he, b1, b2, b3, b4, b5⟩ => ?_
  subst he
  have bel : Below W.heap.size W W' := ⟨b3, b4, b5, b1, fun k hk => b2 k hk⟩
  have hp0 : ∀ p ∈ p0, p.block < W.heap.size := fun p hp => hlt p (by simp [hp])
  refine ⟨_, rfl, _, _, _, [], p0 ++ [], [], hW', ?_, ?_, ?_, bel.frame _, fun h => by cases h⟩
  · rw [eq1]; exact trodAll_mk1 (shut_bool u4 true)
  · rw [eq1]; exact trodAll_mk2 (slice_stays hs0 (fun p hp => bel.same (hp0 p hp)) (fun p hp => decide_eq_true (hp0 p hp))) (shut_int u23 wk)
  · rw [eq1]; rfl

theorem holds : Rows.QueuesVoidSaid :=
  OpenClaim.holds_of_cond 3 Tryz.f3 rfl rfl rfl rfl rfl rfl rfl ⟨rfl, rfl, rfl, rfl, rfl⟩ rfl rfl rfl rfl rfl (by kernel_rfl) Tryz.func3 (by kernel_rfl)
    (of_decide_eq_true (by kernel_rfl)) (by unfold Func.isWrapper; rw [if_neg (of_decide_eq_false (by kernel_rfl))]; exact ⟨rfl, rfl⟩)
    (fun os started H enc _ F0 => by rw [OpenClaim.pre_eq_preRow]; exact lifted os started H enc F0)

/-- The claim's theorem. -/
theorem card_holds : Rows.QueuesVoidCardSaid :=
  Claim7.holds_tied_plain_at .later [] [.data, .data] true (true, "3ca2d5f83778a4e15e13f27f8c3b22391d42d075da99685792b0c9c0ce52ce5c") true
    holds (fun _ h => by cases h) (by kernel_rfl) (fun _ h => by cases h) queuesVoid_row_tie rfl ⟨rfl, rfl⟩ (by kernel_rfl) rfl
    (fun f fn hf hfn => by
      obtain rfl : f = 3 := Option.some.inj ((show Tryz.prog.funcNamed "ragpicker/ragpickerlaw27.QueuesVoid" = some 3 by kernel_rfl).symm.trans hf) |>.symm
      obtain rfl : fn = Tryz.f3 := (Option.some.inj (Tryz.func3.symm.trans hfn)).symm
      have hpar : Tryz.f3.params = #[22, 23] := by kernel_rfl
      exact ⟨by kernel_rfl, fun j t ht => by
        rw [hpar] at ht
        have hm : t ∈ [22, 23] := by simpa using Array.mem_of_getElem? ht
        have hall : ([22, 23].all fun u => !Tryz.prog.wantsStandIn u) = true := by kernel_rfl
        exact (show Tryz.prog.wantsStandIn t = false by simpa using List.all_eq_true.1 hall t hm)⟩)
    (by kernel_rfl)
#print axioms card_holds
end Go.Proofs.YtipkbcnibhnjdabGreatDoor
