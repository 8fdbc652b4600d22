/-
ListsVoid, of whatever arguments: true.
-/
import Derived.Test.YtipkbcnibhnjdaaGreatDoorLvMi
import Derived.Test.YtipkbcnibhnjdaaGreatDoorLvMj
import Derived.Test.YtipkbcnibhnjdaaGreatDoorEvG
namespace Go.Proofs.YtipkbcnibhnjdaaGreatDoor
open Go Go.Ev
set_option maxRecDepth 1000000
theorem law_rows (p : PhT) (rows : List (List Int)) (list key : Int) : ∃ H', callN (Es p (s6 p)) 80 (q 4) [.slc (q 1) 0 rows.length none 4, .int .i64 list, .int .u64 key] (bH0 rows) = some (.bool true, H') := by
  cases hlen : ltI 300 (.ofNat rows.length) with
  | true => exact v_long p rows hlen list key
  | false =>
    have h300 : rows.length ≤ 300 := by
      have e : ltI (.ofNat 300) (.ofNat rows.length) = decide (300 < rows.length) := ltI_nat _ _
      have h2 : decide (300 < rows.length) = false := e ▸ hlen
      have := of_decide_eq_false h2
      omega
    cases h1 : byB p (bM rows rows.length) 1 <;> cases h2 : byB p (bM rows rows.length) 4 <;> cases hl : ltI list 0 <;> cases hg : ltI 8 list
    · exact v_in1_00 p rows hlen h300 list key hl hg h1 h2
    · exact v_gt1_00 p rows hlen h300 list key hl hg h1 h2
    · exact v_neg1_00 p rows hlen h300 list key hl h1 h2
    · exact v_neg1_00 p rows hlen h300 list key hl h1 h2
    · exact v_in1_01 p rows hlen h300 list key hl hg h1 h2
    · exact v_gt1_01 p rows hlen h300 list key hl hg h1 h2
    · exact v_neg1_01 p rows hlen h300 list key hl h1 h2
    · exact v_neg1_01 p rows hlen h300 list key hl h1 h2
    · exact v_in1_10 p rows hlen h300 list key hl hg h1 h2
    · exact v_gt1_10 p rows hlen h300 list key hl hg h1 h2
    · exact v_neg1_10 p rows hlen h300 list key hl h1 h2
    · exact v_neg1_10 p rows hlen h300 list key hl h1 h2
    · exact v_in1_11 p rows hlen h300 list key hl hg h1 h2
    · exact v_gt1_11 p rows hlen h300 list key hl hg h1 h2
    · exact v_neg1_11 p rows hlen h300 list key hl h1 h2
    · exact v_neg1_11 p rows hlen h300 list key hl h1 h2
theorem law_nil (p : PhT) (list key : Int) : ∃ H', callN (Es p (s6 p)) 80 (q 4) [.nils, .int .i64 list, .int .u64 key] (⟨.lf, .h⟩) = some (.bool true, H') := by
  cases h1 : byB p [] 1 <;> cases h2 : byB p [] 4 <;> cases hl : ltI list 0 <;> cases hg : ltI 8 list
  · exact v_in0_00 p list key hl hg h1 h2
  · exact v_gt0_00 p list key hl hg h1 h2
  · exact v_neg0_00 p list key hl h1 h2
  · exact v_neg0_00 p list key hl h1 h2
  · exact v_in0_01 p list key hl hg h1 h2
  · exact v_gt0_01 p list key hl hg h1 h2
  · exact v_neg0_01 p list key hl h1 h2
  · exact v_neg0_01 p list key hl h1 h2
  · exact v_in0_10 p list key hl hg h1 h2
  · exact v_gt0_10 p list key hl hg h1 h2
  · exact v_neg0_10 p list key hl h1 h2
  · exact v_neg0_10 p list key hl h1 h2
  · exact v_in0_11 p list key hl hg h1 h2
  · exact v_gt0_11 p list key hl hg h1 h2
  · exact v_neg0_11 p list key hl h1 h2
  · exact v_neg0_11 p list key hl h1 h2
theorem get_ro {rows : List (List Int)} {i : Pos} {o : AObj} (h : (bH0 rows).t.get i = some o) : i = q 1 ∧ o = .ro rows 0 := by
  have := mkT_get (l := [(q 1, AObj.ro rows 0)]) h
  simp only [List.mem_cons, List.not_mem_nil, or_false, Prod.mk.injEq] at this
  exact this
def PostV (W : World) (e : Ending) (W' : World) : Prop := e = .returned (.bool true) ∧ W.heap.size ≤ W'.heap.size ∧ (∀ b, b < W.heap.size → W'.heap[b]? = W.heap[b]?) ∧ W'.os = W.os ∧ W'.tape = W.tape ∧ W'.output = W.output
theorem calls_rows (p : PhT) (rows : List (List Int)) (list key : Int) {φ : Emb} {W : World} {v : Value} (hr : Rep Tryz.prog [(0, g0), (1, p.cells)] φ (bH0 rows) W) (hv : VR φ (.slc (q 1) 0 rows.length none 4) v) : Calls Tryz.prog 3 #[v, .int .i64 list, .int .u64 key] W (PostV W) := by
  obtain ⟨H', h⟩ := law_rows p rows list key
  obtain ⟨_, hc⟩ := callN_good (Es_ok p (s6_ok p)) _ _ _ _ _ _ h
  have := hc φ W [v, .int .i64 list, .int .u64 key] hr ⟨_, _, rfl, hv, _, _, rfl, rfl, _, _, rfl, rfl, rfl⟩
  refine Calls.mono (R := CPost Tryz.prog [(0, g0), (1, p.cells)] φ (bH0 rows) W (.bool true) H') this fun e W' hp => ?_
  obtain ⟨u, φ', he, hu, _, hx⟩ := hp
  have hu : u = .bool true := hu
  subst hu
  exact ⟨he, hx.size, fun b hb => hx.frame b hb fun j o s n hj _ => by obtain ⟨_, rfl⟩ := get_ro hj; rfl, hx.os, hx.tape, hx.output⟩
theorem calls_nil (p : PhT) (list key : Int) {W : World} (hr : Rep Tryz.prog [(0, g0), (1, p.cells)] (fun _ => none) ⟨.lf, .h⟩ W) : Calls Tryz.prog 3 #[.slice none 0 0, .int .i64 list, .int .u64 key] W (PostV W) := by
  obtain ⟨H', h⟩ := law_nil p list key
  obtain ⟨_, hc⟩ := callN_good (Es_ok p (s6_ok p)) _ _ _ _ _ _ h
  have := hc (fun _ => none) W [.slice none 0 0, .int .i64 list, .int .u64 key] hr ⟨_, _, rfl, rfl, _, _, rfl, rfl, _, _, rfl, rfl, rfl⟩
  refine Calls.mono (R := CPost Tryz.prog [(0, g0), (1, p.cells)] (fun _ => none) ⟨.lf, .h⟩ W (.bool true) H') this fun e W' hp => ?_
  obtain ⟨u, φ', he, hu, _, hx⟩ := hp
  have hu : u = .bool true := hu
  subst hu
  exact ⟨he, hx.kept⟩
end Go.Proofs.YtipkbcnibhnjdaaGreatDoor
