/-
Calls, operations, code: what the evaluator gives is what the model does.
-/
import Derived.Test.YtipkbcnibhnjdabGreatDoorEvZ
import Derived.SizedLaws
set_option linter.unusedVariables false
set_option linter.unusedSimpArgs false
namespace Go.Ev
section
variable {P : Program} {G : List (Nat × List AV)} {names : List String}

/-- May it be entered? -/
def Enter (P : Program) (f : Pos) : Prop := ∃ fn, P.funcs[f.toNat - 1]? = some fn ∧ fn.body.isSome = true ∧ (fn.name == "runtime.NumGoroutine") = false
/-- What a call that ends well leaves. -/
def CPost (P : Program) (G : List (Nat × List AV)) (φ : Emb) (H : Hp) (w : World) (v : AV) (H' : Hp) (e : Ending) (w' : World) : Prop :=
  ∃ u φ', e = .returned u ∧ VR φ' v u ∧ Rep P G φ' H' w' ∧ Ext φ H w φ' H' w'
/-- Calls that are as the evaluator says. -/
def GoodCall (P : Program) (G : List (Nat × List AV)) (call : CallF) : Prop :=
  ∀ f args H v H', call f args H = some (v, H') → Enter P f ∧ ∀ φ w argsV, Rep P G φ H w → VRs φ args argsV → Calls P (f.toNat - 1) argsV.toArray w (CPost P G φ H w v H')

/-- A row of the table of methods is the program's. -/
def methOK (P : Program) (names : List String) (t m : Nat) (f : Pos) : Bool :=
  match P.info? t, names[m]? with
  | some i, some name => match i.methods.find? (·.name == name) with
    | some mm => mm.path.isEmpty && (match mm.func with
      | some (f', pr) => Nat.beq (f' + 1) f.toNat && (match P.underlying t, pr with
        | some (.pointer _), true => true
        | some (.pointer _), false => false
        | some _, false => true
        | _, _ => false)
      | none => false)
    | none => false
  | _, _ => false
def methsOK (P : Program) (names : List String) : List (Nat × Nat × Pos) → Bool
  | [] => true
  | (t, m, f) :: l => methOK P names t m f && methsOK P names l

theorem findM_ok : ∀ {l : List (Nat × Nat × Pos)} {t m : Nat} {f : Pos}, methsOK P names l = true → findM t m l = some f → methOK P names t m f = true
  | [], _, _, _, _, h => by simp [findM] at h
  | (t', m', f') :: l, t, m, f, hok, h => by
    simp only [methsOK, Bool.and_eq_true] at hok
    simp only [findM] at h
    split at h
    · rename_i e
      simp only [Bool.and_eq_true, Nat.beq_eq] at e
      cases h
      rw [e.1, e.2]
      exact hok.1
    · exact findM_ok hok.2 h

theorem idxOfName_get {names : List String} {s : String} {k : Nat} (h : idxOfName names s = some k) : names[k]? = some s := by
  unfold idxOfName at h
  rw [List.findIdx?_eq_some_iff_getElem] at h
  obtain ⟨h1, h2, _⟩ := h
  rw [List.getElem?_eq_getElem h1]
  simpa using h2

theorem run_callFunc {f : Pos} (h : Enter P f) (args : Array Value) (w : World) : (callFunc (f.toNat - 1) args).run P w = .ok (.enter (f.toNat - 1) args) w := by
  obtain ⟨fn, h1, h2, h3⟩ := h
  have h2' : ¬ fn.body = none := by intro e; rw [e] at h2; cases h2
  have h3' : ¬ fn.name = "runtime.NumGoroutine" := by simpa using h3
  simp [callFunc, h1, h2', h3']

theorem run_callMethod {t m : Nat} {f : Pos} {name : String} (hm : methOK P names t m f = true) (hn : names[m]? = some name) (he : Enter P f) (v : Value) (args : Array Value) (w : World) :
    (callMethod (.iface t v) name args).run P w = .ok (.enter (f.toNat - 1) (#[v] ++ args)) w := by
  unfold methOK at hm
  split at hm
  · rename_i i nm hi hnm
    rw [hn] at hnm
    cases hnm
    split at hm
    · rename_i mm hmm
      simp only [Bool.and_eq_true] at hm
      obtain ⟨hp, hm⟩ := hm
      split at hm
      · rename_i f' pr hf
        simp only [Bool.and_eq_true] at hm
        obtain ⟨hff, hm⟩ := hm
        have hff := Nat.eq_of_beq_eq_true hff
        have hf' : f' = f.toNat - 1 := by rw [← hff]; rfl
        have hpath : mm.path.toList = [] := by simpa using hp
        have hmeth : (method (P.types.size + Made.depth) t v name).run P w = .ok (f', v) w := by
          have : P.types.size + Made.depth = (P.types.size + 99) + 1 := by simp [Made.depth]
          rw [this]
          unfold method
          simp only [Sem.run_bind]
          have hti : (typeInfo t).run P w = .ok i w := by simp [typeInfo, hi]
          simp only [hti, Result.andThen_ok, hmm, hpath, follow, Sem.run_pure, hf]
          cases hd : P.underlying t with
          | none => rw [hd] at hm; cases pr <;> cases hm
          | some dd =>
            rw [hd] at hm
            cases pr <;> cases dd <;> first | (cases hm; done) | (simp [receiverAt, run_underlying hd, Place.get]; done)
        simp only [callMethod, Sem.run_bind, run_program, Result.andThen_ok, hmeth]
        rw [hf']
        exact run_callFunc he _ w
      · cases hm
    · cases hm
  · cases hm
end
end Go.Ev
