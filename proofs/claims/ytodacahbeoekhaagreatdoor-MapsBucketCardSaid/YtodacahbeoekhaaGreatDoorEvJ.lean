/-
Summaries: what a run at the empty heap gives, it gives at every heap.
-/
import Derived.Test.YtodacahbeoekhaaGreatDoorEvG
namespace Go.Ev

mutual
def AV.flat : AV → Bool
  | .bool _ | .int _ _ | .str _ | .gp _ _ | .nilp | .nils | .nilm | .nilf | .nili => true
  | .agg l => AV.flats l
  | .tup l => AV.flats l
  | .ifc _ v => AV.flat v
  | .fn _ a b => AV.flats a && AV.flats b
  | _ => false
def AV.flats : List AV → Bool
  | [] => true
  | a :: l => AV.flat a && AV.flats l
end

mutual
theorem AV.flat_any {φ ψ : Emb} : ∀ {a : AV} {v : Value}, AV.flat a = true → VR φ a v → VR ψ a v
  | .bool _, _, _, h => h
  | .int _ _, _, _, h => h
  | .str _, _, _, h => h
  | .gp _ _, _, _, h => h
  | .nilp, _, _, h => h
  | .nils, _, _, h => h
  | .nilm, _, _, h => h
  | .nilf, _, _, h => h
  | .nili, _, _, h => h
  | .agg l, _, hf, ⟨vs, h1, h2⟩ => ⟨vs, h1, AV.flats_any (by simpa [AV.flat] using hf) h2⟩
  | .tup l, _, hf, ⟨vs, h1, h2⟩ => ⟨vs, h1, AV.flats_any (by simpa [AV.flat] using hf) h2⟩
  | .ifc t v, _, hf, ⟨u, h1, h2⟩ => ⟨u, h1, AV.flat_any (by simpa [AV.flat] using hf) h2⟩
  | .fn f a b, _, hf, ⟨fs, cs, h1, h2, h3⟩ => by
    simp only [AV.flat, Bool.and_eq_true] at hf
    exact ⟨fs, cs, h1, AV.flats_any hf.1 h2, AV.flats_any hf.2 h3⟩
  | .ptr _ _, _, hf, _ => by simp [AV.flat] at hf
  | .slc .., _, hf, _ => by simp [AV.flat] at hf
  | .map _, _, hf, _ => by simp [AV.flat] at hf
theorem AV.flats_any {φ ψ : Emb} : ∀ {l : List AV} {vs : List Value}, AV.flats l = true → VRs φ l vs → VRs ψ l vs
  | [], _, _, h => h
  | a :: l, _, hf, ⟨v, vs, h1, h2, h3⟩ => by
    simp only [AV.flats, Bool.and_eq_true] at hf
    exact ⟨v, vs, h1, AV.flat_any hf.1 h2, AV.flats_any hf.2 h3⟩
end

section
variable {P : Program} {names : List String} {G : List (Nat × List AV)}

theorem Rep.grown {φ : Emb} {H : Hp} {w w' : World} (h : Rep P G φ H w) (hs : w.heap.size ≤ w'.heap.size) (hk : ∀ b, b < w.heap.size → w'.heap[b]? = w.heap[b]?) : Rep P G φ H w' := by
  refine ⟨fun i o hi => ?_, h.inj, h.fresh, Nat.le_trans h.size hs, fun g cs hg => ?_⟩
  · obtain ⟨b, s, n, h1, h2, c, h3, h4⟩ := h.obj i o hi
    exact ⟨b, s, n, h1, h2, c, by rw [hk b (Array.getElem?_eq_some_iff.1 h3).1]; exact h3, h4⟩
  · obtain ⟨h1, c, t, f, h2, h3⟩ := h.glob g cs hg
    exact ⟨h1, c, t, f, by rw [hk g (Array.getElem?_eq_some_iff.1 h2).1]; exact h2, h3⟩
theorem Ext.grown {φ : Emb} {H : Hp} {w w' : World} (hs : w.heap.size ≤ w'.heap.size) (hk : ∀ b, b < w.heap.size → w'.heap[b]? = w.heap[b]?) (h1 : w'.os = w.os) (h2 : w'.tape = w.tape) (h3 : w'.output = w.output) : Ext φ H w φ H w' :=
  ⟨fun _ _ h => h, fun _ _ => rfl, fun i o b s n h1 h2 => .inr ⟨i, o, s, n, h1, h2⟩, fun b hb _ => hk b hb, hs, Nat.le_refl _, h1, h2, h3⟩

theorem flat_sum {E : Env} (hE : EnvOK P names E) {n : Nat} {f : Pos} {args : List AV} {v : AV} {H' : Hp} (hrun : callN E n f args ⟨.lf, .h⟩ = some (v, H')) (hv : AV.flat v = true) :
    Enter P f ∧ ∀ φ H w argsV, Rep P E.globals φ H w → VRs (fun _ => none) args argsV → Calls P (f.toNat - 1) argsV.toArray w (CPost P E.globals φ H w v H) := by
  obtain ⟨hen, hc⟩ := callN_good hE n f args _ v H' hrun
  refine ⟨hen, fun φ H w argsV hr ha => (hc (fun _ => none) w argsV (Rep.empty hr.size hr.glob) ha).mono fun e w' hp => ?_⟩
  obtain ⟨u, φ', he, hu, hr', hx⟩ := hp
  obtain ⟨k1, k2, k3, k4, k5⟩ := hx.kept
  exact ⟨u, φ, he, AV.flat_any hv hu, hr.grown k1 k2, Ext.grown k1 k2 k3 k4 k5⟩

/-- A summary of one row: these arguments, that result. -/
def oneSum (args0 : List AV) (v : AV) : List AV → Hp → Option (AV × Hp) := fun args H => match AV.sames args0 args with
  | true => some (v, H)
  | false => none

def SumQ (P : Program) (G : List (Nat × List AV)) (f : Pos) (F : List AV → Hp → Option (AV × Hp)) : Prop :=
  ∀ args H v H', F args H = some (v, H') → Enter P f ∧ ∀ φ w argsV, Rep P G φ H w → VRs φ args argsV → Calls P (f.toNat - 1) argsV.toArray w (CPost P G φ H w v H')

theorem oneSum_ok {E : Env} (hE : EnvOK P names E) {n : Nat} {f : Pos} {args0 : List AV} {v : AV} {H' : Hp} (hrun : callN E n f args0 ⟨.lf, .h⟩ = some (v, H')) (ha : AV.flats args0 = true) (hv : AV.flat v = true) : SumQ P E.globals f (oneSum args0 v) := by
  intro args H v' H'' h
  unfold oneSum at h
  split at h
  · rename_i hs
    cases h
    have := AV.sames_eq hs
    subst this
    obtain ⟨hen, hc⟩ := flat_sum hE hrun hv
    exact ⟨hen, fun φ w argsV hr hargs => hc φ H w argsV hr (AV.flats_any ha hargs)⟩
  · cases h

theorem all_put {α : Type} {Q : Pos → α → Prop} {t : Tr α} {p : Pos} {x : α} (ht : Tr.All Q t) (hx : Q p x) : Tr.All Q (t.put p (some x)) := fun r y h => by
  by_cases e : p = r
  · subst e
    rw [Tr.get_put_same] at h
    cases h
    exact hx
  · rw [Tr.get_put_ne _ _ e] at h
    exact ht r y h

theorem EnvOK.sum {E : Env} (hE : EnvOK P names E) (s : Tr (List AV → Hp → Option (AV × Hp))) (h : Tr.All (SumQ P E.globals) s) : EnvOK P names { E with sums := s } := ⟨hE.mix, hE.meths, hE.code, h⟩

/-- Is it 'true'? -/
def isTrue : Option (AV × Hp) → Bool
  | some (.bool b, _) => b
  | _ => false
theorem isTrue_some {r : Option (AV × Hp)} (h : isTrue r = true) : ∃ H', r = some (.bool true, H') := by
  unfold isTrue at h
  split at h
  · subst h; exact ⟨_, rfl⟩
  · cases h
end
end Go.Ev
