/-
Tables of code, checked leaf by leaf.
-/
import Derived.Test.YtipkbcnibhnjdabGreatDoorEvU
import Derived.Test.YtipkbcnibhnjdabGreatDoorEvF
import Derived.Test.YtipkbcnibhnjdabGreatDoorEvL
set_option linter.unusedVariables false
set_option linter.unusedSimpArgs false
namespace Go.Ev

def Tr.All {α : Type} (Q : Pos → α → Prop) (t : Tr α) : Prop := ∀ p x, t.get p = some x → Q p x
theorem all_lf {α : Type} {Q : Pos → α → Prop} : Tr.All Q .lf := fun p x h => by rw [Tr.get_lf] at h; cases h
theorem all_nd {α : Type} {Q : Pos → α → Prop} {v : Option α} {l r : Tr α} (hv : ∀ x, v = some x → Q .h x) (hl : Tr.All (fun p => Q (.o p)) l) (hr : Tr.All (fun p => Q (.i p)) r) : Tr.All Q (.nd v l r) := fun p x h => by
  cases p with
  | h => exact hv x h
  | o p => exact hl p x h
  | i p => exact hr p x h
theorem none_ok {α : Type} {Q : α → Prop} : ∀ x, (none : Option α) = some x → Q x := fun _ h => by cases h
theorem some_ok {α : Type} {Q : α → Prop} {y : α} (h : Q y) : ∀ x, some y = some x → Q x := fun _ e => by cases e; exact h

def CodeQ (P : Program) (names : List String) (f : Pos) (x : XF) : Prop := ∃ fn, P.funcs[f.toNat - 1]? = some fn ∧ lowF P names fn = some x ∧ (fn.name == "runtime.NumGoroutine") = false
theorem codeQ_of {P : Program} {names : List String} {f : Pos} {x : XF} {n : Nat} {fn : Func} (hn : f.toNat - 1 = n) (h1 : P.funcs[n]? = some fn) (h2 : lowF P names fn = some x) (h3 : (fn.name == "runtime.NumGoroutine") = false) : CodeQ P names f x :=
  ⟨fn, by rw [hn]; exact h1, h2, h3⟩

theorem envOK_of {P : Program} {names : List String} {E : Env} (mix : P.follows .mixedOrders = true) (meths : methsOK P names E.meths = true) (code : Tr.All (CodeQ P names) E.code)
    (sums : ∀ f F, E.sums.get f = some F → ∀ args H v H', F args H = some (v, H') → Enter P f ∧ ∀ φ w argsV, Rep P E.globals φ H w → VRs φ args argsV → Calls P (f.toNat - 1) argsV.toArray w (CPost P E.globals φ H w v H')) : EnvOK P names E :=
  ⟨mix, meths, code, sums⟩

theorem Rep.empty {P : Program} {G : List (Nat × List AV)} {w : World} (hs : P.globals.size ≤ w.heap.size)
    (hg : ∀ g cs, (g, cs) ∈ G → g < P.globals.size ∧ ∃ c t f, w.heap[g]? = some (.cells c t f) ∧ ∀ (j : Nat) a, at? cs j = some a → ∃ v, c[j]? = some v ∧ ∀ ψ, VR ψ a v) : Rep P G (fun _ => none) ⟨.lf, .h⟩ w :=
  ⟨fun i o h => by simp [Tr.get_lf] at h, fun i j o o' b s n s' n' h => by simp [Tr.get_lf] at h, fun _ _ => rfl, hs, hg⟩

/-- What a run at the empty heap leaves of a world. -/
theorem Ext.kept {φ φ' : Emb} {H' : Hp} {w w' : World} (h : Ext φ ⟨.lf, .h⟩ w φ' H' w') : w.heap.size ≤ w'.heap.size ∧ (∀ b, b < w.heap.size → w'.heap[b]? = w.heap[b]?) ∧ w'.os = w.os ∧ w'.tape = w.tape ∧ w'.output = w.output :=
  ⟨h.size, fun b hb => h.frame b hb fun j o s n hj => by simp [Tr.get_lf] at hj, h.os, h.tape, h.output⟩
end Go.Ev
