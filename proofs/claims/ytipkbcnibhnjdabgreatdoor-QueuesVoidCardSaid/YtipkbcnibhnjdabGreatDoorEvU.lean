/-
Code, calls: what the evaluator gives is what the model does.
-/
import Derived.Test.YtipkbcnibhnjdabGreatDoorEvQT
set_option linter.unusedVariables false
set_option linter.unusedSimpArgs false
namespace Go.Ev

def exM : Ex → Exit
  | .normal => .normal
  | .exit id => .exit id
  | .ret => .ret

section
variable {P : Program} {names : List String}

/-- Where a loop's body begins a round. -/
def LoopWp (P : Program) (c : Code) (Q : Exit → Act → World → Prop) (a : Act) (w : World) : Prop :=
  ∀ (b : Frame) (k : List Item) (cs : List Frame), ∃ e a' w', Q e a' w' ∧ Arrives P (lone (b.at a (.code c :: .inLoop c :: k)) cs w) b k cs e a' w'
theorem LoopWp.wp {c : Code} {Q : Exit → Act → World → Prop} {a : Act} {w : World} (h : LoopWp P c Q a w) : (Code.loop c).wp P Q a w := fun b k cs =>
  let ⟨e, a', w', hq, harr⟩ := h b k cs
  ⟨e, a', w', hq, .of_steps (.one step_loop) harr⟩
theorem LoopWp.round {c : Code} {Q : Exit → Act → World → Prop} {a : Act} {w : World} (h : c.wp P (Exit.then (LoopWp P c Q) Q) a w) : LoopWp P c Q a w := by
  intro b k cs
  obtain ⟨e, a₁, w₁, hq, harr⟩ := h b (.inLoop c :: k) cs
  cases e with
  | normal =>
    obtain ⟨e₂, a₂, w₂, hq₂, harr₂⟩ := hq b k cs
    exact ⟨e₂, a₂, w₂, hq₂, .of_steps (Steps.trans harr (.one step_inLoop)) harr₂⟩
  | exit id => exact ⟨_, a₁, w₁, hq, .pass (x := .inLoop c) rfl (fun _ _ => .inl (by simp)) harr⟩
  | goto l => exact ⟨_, a₁, w₁, hq, .pass (x := .inLoop c) rfl (fun _ _ => .inl (by simp)) harr⟩
  | ret => exact ⟨_, a₁, w₁, hq, .pass (x := .inLoop c) rfl (fun _ _ => .inl (by simp)) harr⟩
  | panic ch => exact ⟨_, a₁, w₁, hq, .pass (x := .inLoop c) rfl (fun _ _ => .inl (by simp)) harr⟩
  | outgrown => exact ⟨_, a₁, w₁, hq, .pass (x := .inLoop c) rfl (fun _ _ => .inl (by simp)) harr⟩

/-- What is to follow a run of code. -/
def After (P : Program) (G : List (Nat × List AV)) (nt : Nat) (φ : Emb) (H : Hp) (w : World) (e : Ex) (T' : Tm) (H' : Hp) (Q : Exit → Act → World → Prop) : Prop :=
  ∀ a' w' φ', FrOK φ' T' a' nt → Rep P G φ' H' w' → Ext φ H w φ' H' w' → Q (exM e) a' w'

theorem lowC_seq {nt : Nat} {a b : Code} {x : XC} (h : lowC P names nt (.seq a b) = some x) : ∃ y z, lowC P names nt a = some y ∧ lowC P names nt b = some z ∧ x = .seq y z := by
  simp only [lowC] at h
  split at h
  · rename_i y z h1 h2; cases h; exact ⟨y, z, h1, h2, rfl⟩
  · cases h

theorem body_wp {E : Env} {call : CallF} (hmix : P.follows .mixedOrders = true) (hg : GoodCall P E.globals call) (hm : methsOK P names E.meths = true) {nt : Nat} : ∀ (n : Nat) (c : Code) (x : XC), lowC P names nt c = some x →
    ∀ (φ : Emb) (T : Tm) (H : Hp) (a : Act) (w : World), FrOK φ T a nt → Rep P E.globals φ H w → ∀ (e : Ex) (T' : Tm) (H' : Hp),
      (body call E n x T H = some (e, T', H') → ∀ Q, After P E.globals nt φ H w e T' H' Q → c.wp P Q a w) ∧
      (body call E n (.loop x) T H = some (e, T', H') → ∀ Q, After P E.globals nt φ H w e T' H' Q → LoopWp P c Q a w)
  | 0, c, x, hl, φ, T, H, a, w, hf, hr, e, T', H' => ⟨fun h => by simp [body] at h, fun h => by simp [body] at h⟩
  | n + 1, c, x, hl, φ, T, H, a, w, hf, hr, e, T', H' => by
    refine ⟨fun he Q hQ => ?_, fun he Q hQ => ?_⟩
    · cases c with
      | skip =>
        simp only [lowC] at hl
        cases hl
        simp only [body] at he
        cases he
        exact wp_skip (hQ a w φ hf hr (Ext.refl φ H w))
      | region id ops draw =>
        simp only [lowC] at hl
        split at hl
        · rename_i xs hlow
          cases draw with
          | false =>
            simp only [] at hl
            cases hl
            simp only [body] at he
            split at he
            · rename_i T1 H1 hops
              cases he
              refine wp_region ?_
              have := ops_wp (Q := Q) (H' := H') (T' := T') hg hm (ops := ops) (nt := nt) ops.toList xs 0 (by simp) hlow φ T a H w hf hr hops hQ
              rwa [show List.range' 0 ops.toList.length = List.range ops.size from by simp [List.range_eq_range']] at this
            · cases he
          | true =>
            simp only [] at hl
            split at hl
            · rename_i hplan
              cases hl
              simp only [body] at he
              split at he
              · rename_i s hrun
                cases he
                exact rgd_wp hmix hg hm hlow hplan hf hr hrun hQ
              · cases he
            · cases hl
        · cases hl
      | seq c1 c2 =>
        obtain ⟨y, z, h1, h2, rfl⟩ := lowC_seq hl
        simp only [body] at he
        refine wp_seq ?_
        split at he
        · rename_i T1 H1 hb
          refine (body_wp hmix hg hm n c1 y h1 φ T H a w hf hr _ _ _).1 hb _ fun a' w' φ' s1 s2 s3 => ?_
          exact (body_wp hmix hg hm n c2 z h2 φ' T1 H1 a' w' s1 s2 _ _ _).1 he _ fun a'' w'' φ'' t1 t2 t3 => hQ a'' w'' φ'' t1 t2 (s3.trans t3)
        · rename_i hne
          refine (body_wp hmix hg hm n c1 y h1 φ T H a w hf hr _ _ _).1 he _ fun a' w' φ' s1 s2 s3 => ?_
          have := hQ a' w' φ' s1 s2 s3
          cases e with
          | normal => exact absurd he (hne _ _)
          | exit id => exact this
          | ret => exact this
      | cond o c1 c2 =>
        simp only [lowC] at hl
        split at hl
        · rename_i z y1 y2 hz h1 h2
          cases hl
          have hv := hf.fr.opR o z hz
          simp only [body] at he
          split at he
          · rename_i hb
            rw [hb] at hv
            exact wp_cond_true hv ((body_wp hmix hg hm n c1 y1 h1 φ T H a w hf hr _ _ _).1 he Q hQ)
          · rename_i hb
            rw [hb] at hv
            exact wp_cond_false hv ((body_wp hmix hg hm n c2 y2 h2 φ T H a w hf hr _ _ _).1 he Q hQ)
          · cases he
        · cases hl
      | block id c1 =>
        simp only [lowC, Option.map_eq_some_iff] at hl
        obtain ⟨y, h1, rfl⟩ := hl
        simp only [body] at he
        refine wp_block ?_
        split at he
        · rename_i id' T1 H1 hb
          refine (body_wp hmix hg hm n c1 y h1 φ T H a w hf hr _ _ _).1 hb _ fun a' w' φ' s1 s2 s3 => ?_
          simp only [exM, Exit.inBlock]
          split at he
          · rename_i hid
            have := Nat.eq_of_beq_eq_true hid
            cases he
            rw [if_pos this.symm]
            exact hQ a' w' φ' s1 s2 s3
          · rename_i hid
            cases he
            rw [if_neg (fun e => by subst e; simp at hid)]
            exact hQ a' w' φ' s1 s2 s3
        · rename_i hne
          refine (body_wp hmix hg hm n c1 y h1 φ T H a w hf hr _ _ _).1 he _ fun a' w' φ' s1 s2 s3 => ?_
          have := hQ a' w' φ' s1 s2 s3
          cases e with
          | normal => exact this
          | exit id => exact absurd he (hne _ _ _)
          | ret => exact this
      | loop c1 =>
        simp only [lowC, Option.map_eq_some_iff] at hl
        obtain ⟨y, h1, rfl⟩ := hl
        exact LoopWp.wp (LoopWp.round (by
          simp only [body] at he
          split at he
          · rename_i T1 H1 hb
            refine (body_wp hmix hg hm n c1 y h1 φ T H a w hf hr _ _ _).1 hb _ fun a' w' φ' s1 s2 s3 => ?_
            exact (body_wp hmix hg hm n c1 y h1 φ' T1 H1 a' w' s1 s2 _ _ _).2 he _ fun a'' w'' φ'' t1 t2 t3 => hQ a'' w'' φ'' t1 t2 (s3.trans t3)
          · rename_i hne
            refine (body_wp hmix hg hm n c1 y h1 φ T H a w hf hr _ _ _).1 he _ fun a' w' φ' s1 s2 s3 => ?_
            have := hQ a' w' φ' s1 s2 s3
            cases e with
            | normal => exact absurd he (hne _ _)
            | exit id => exact this
            | ret => exact this))
      | exit id =>
        simp only [lowC] at hl
        cases hl
        simp only [body] at he
        cases he
        exact wp_exit (hQ a w φ hf hr (Ext.refl φ H w))
      | ret =>
        simp only [lowC] at hl
        cases hl
        simp only [body] at he
        cases he
        exact wp_ret (hQ a w φ hf hr (Ext.refl φ H w))
      | _ => simp [lowC] at hl
    · refine LoopWp.round ?_
      simp only [body] at he
      split at he
      · rename_i T1 H1 hb
        refine (body_wp hmix hg hm n c x hl φ T H a w hf hr _ _ _).1 hb _ fun a' w' φ' s1 s2 s3 => ?_
        exact (body_wp hmix hg hm n c x hl φ' T1 H1 a' w' s1 s2 _ _ _).2 he _ fun a'' w'' φ'' t1 t2 t3 => hQ a'' w'' φ'' t1 t2 (s3.trans t3)
      · rename_i hne
        refine (body_wp hmix hg hm n c x hl φ T H a w hf hr _ _ _).1 he _ fun a' w' φ' s1 s2 s3 => ?_
        have := hQ a' w' φ' s1 s2 s3
        cases e with
        | normal => exact absurd he (hne _ _)
        | exit id => exact this
        | ret => exact this

-- the frame at a call's entry
theorem argsT_get : ∀ (l : List AV) (p : Pos) (T : Tm) (r : Pos), (argsT l p T).get r = if p.toNat ≤ r.toNat ∧ r.toNat < p.toNat + l.length then l[r.toNat - p.toNat]? else T.get r
  | [], p, T, r => by simp [argsT]; intro h1 h2; omega
  | v :: l, p, T, r => by
    simp only [argsT]
    rw [argsT_get l p.succ _ r, Pos.toNat_succ]
    by_cases e : p = r
    · subst e
      rw [if_neg (by omega), if_pos (by simp), Tr.get_put_same]
      simp
    · have hne : p.toNat ≠ r.toNat := fun h => e (Pos.toNat_inj h)
      rw [Tr.get_put_ne _ _ e]
      by_cases h : p.toNat + 1 ≤ r.toNat ∧ r.toNat < p.toNat + 1 + l.length
      · rw [if_pos h, if_pos (by simp; omega)]
        have : r.toNat - p.toNat = (r.toNat - (p.toNat + 1)) + 1 := by omega
        rw [this]
        simp
      · rw [if_neg h, if_neg (by simp; omega)]

theorem frame_at {φ : Emb} {args : List AV} {argsV : List Value} (h : VRs φ args argsV) (nt : Nat) :
    FrOK φ (argsT args .h .lf) { tmps := argsV.toArray ++ Array.replicate (nt - argsV.toArray.size) undef, defers := [] } nt := by
  refine ⟨fun t ht => ?_, by simp; omega, rfl⟩
  have hlen := h.length
  simp only [opnd]
  rw [argsT_get, tpos_toNat ht]
  have h1 : Pos.toNat .h = 1 := rfl
  rw [h1]
  by_cases hlt : t < args.length
  · rw [if_pos (by omega), show t + 1 - 1 = t from rfl, List.getElem?_eq_getElem hlt]
    simp only []
    have hv : argsV[t]? = some argsV[t] := List.getElem?_eq_getElem (by omega)
    have hget : (argsV.toArray ++ Array.replicate (nt - argsV.toArray.size) undef).getD t undef = argsV[t] := by
      rw [Array.getD_eq_getD_getElem?, Array.getElem?_append_left (by simp; omega)]
      simp [hv]
    rw [hget]
    exact h.index (List.getElem?_eq_getElem hlt) hv
  · rw [if_neg (by omega)]
    simp only [Tr.get_lf]
    have hget : (argsV.toArray ++ Array.replicate (nt - argsV.toArray.size) undef).getD t undef = undef := by
      rw [Array.getD_eq_getD_getElem?, Array.getElem?_append_right (by simp; omega)]
      by_cases hh : t - argsV.toArray.size < nt - argsV.toArray.size
      · rw [Array.getElem?_replicate, if_pos hh]; rfl
      · rw [Array.getElem?_replicate, if_neg hh]; rfl
    rw [hget]
    exact trivial

def resOne (tmps : Array Value) : ResultVar → Sem Value
  | .tmp t => pure (tmps.getD t undef)
  | .cell a t => do loadVar t (← asAddr (tmps.getD a undef))
theorem results_eq (fn : Func) (tmps : Array Value) : results fn tmps = (do
    let vs ← fn.results.mapM (resOne tmps)
    pure (if h : vs.size = 1 then vs[0] else .tuple vs)) := by
  unfold results
  congr 2

theorem resA_sound {G : List (Nat × List AV)} {φ : Emb} {T : Tm} {H : Hp} {w : World} {a : Act} (hf : FR φ T a) (hr : Rep P G φ H w) : ∀ {l : List ResultVar} {xs : List XR} {vs : List AV}, lowR P l = some xs → resA G T H xs = some vs →
    ∃ us, (l.mapM (resOne a.tmps)).run P w = .ok us w ∧ VRs φ vs us
  | [], xs, vs, hl, he => by
    simp only [lowR] at hl
    cases hl
    simp only [resA] at he
    cases he
    exact ⟨[], by simp, rfl⟩
  | .tmp t :: l, xs, vs, hl, he => by
    simp only [lowR] at hl
    split at hl
    · rename_i m ht hm
      cases hl
      simp only [resA] at he
      split at he
      · rename_i vs' hvs
        cases he
        obtain ⟨us, h1, h2⟩ := resA_sound hf hr hm hvs
        refine ⟨_ :: us, ?_, _, us, rfl, hf t (Nat.le_of_ble_eq_true ht), h2⟩
        simp only [List.mapM_cons, resOne, Sem.run_bind, Sem.run_pure, Result.andThen_ok, h1]
      · cases he
    · cases hl
  | .cell ad t :: l, xs, vs, hl, he => by
    simp only [lowR] at hl
    split at hl
    · rename_i _ n m ht hU hn hm
      cases hl
      obtain ⟨dd, hu⟩ := hasU_some hU
      simp only [resA] at he
      split at he
      · rename_i cs off vs' hc hvs
        split at he
        · rename_i v htake
          cases he
          obtain ⟨us, h1, h2⟩ := resA_sound hf hr hm hvs
          have vx := hf ad (Nat.le_of_ble_eq_true ht)
          obtain ⟨b, k, hv, hcell⟩ := cellsAt_sound hr vx hc
          have : ∃ u, (loadVar t ⟨b, k, none⟩).run P w = .ok u w ∧ VR φ v u := by
            unfold takeA at htake
            split at htake
            · rename_i hag
              split at htake
              · rename_i l' hl'
                cases htake
                obtain ⟨us, g1, g2, g3⟩ := run_load_cells (P := P) hcell hl'
                exact ⟨.agg us.toArray, by simp [loadVar, agg?_true hag, size?_run hn, g1], us, rfl, g2⟩
              · cases htake
            · rename_i hag
              obtain ⟨u, g1, g2⟩ := hcell 0 v (by simpa using htake)
              refine ⟨u, ?_, g2⟩
              simp at g1
              simp [loadVar, agg?_false hu hag, g1]
          obtain ⟨u, g1, g2⟩ := this
          refine ⟨u :: us, ?_, u, us, rfl, g2, h2⟩
          have ha : (asAddr (Value.pointer (some ⟨b, k, none⟩))).run P w = .ok ⟨b, k, none⟩ w := by simp [asAddr]
          simp only [List.mapM_cons, resOne, Sem.run_bind, Sem.run_pure, hv, ha, Result.andThen_ok, g1, h1]
        · cases he
      · cases he
    · cases hl

theorem resV_sound {φ : Emb} {vs : List AV} {us : List Value} (h : VRs φ vs us) : VR φ (resV vs) (if h : us.toArray.size = 1 then us.toArray[0] else .tuple us.toArray) := by
  have hlen := h.length
  match vs, us with
  | [], us => simp at hlen; subst hlen; exact ⟨[], rfl, rfl⟩
  | [v], [u] =>
    obtain ⟨_, _, e, h1, h2⟩ := h
    cases e
    exact h1
  | v :: v' :: vs, us =>
    rw [dif_neg (by simp at hlen ⊢; omega)]
    exact ⟨us, rfl, h⟩

/-- A table of code, of sums that is the program's. -/
structure EnvOK (P : Program) (names : List String) (E : Env) : Prop where
  mix : P.follows .mixedOrders = true
  meths : methsOK P names E.meths = true
  code : ∀ f x, E.code.get f = some x → ∃ fn, P.funcs[f.toNat - 1]? = some fn ∧ lowF P names fn = some x ∧ (fn.name == "runtime.NumGoroutine") = false
  sums : ∀ f F, E.sums.get f = some F → ∀ args H v H', F args H = some (v, H') → Enter P f ∧ ∀ φ w argsV, Rep P E.globals φ H w → VRs φ args argsV → Calls P (f.toNat - 1) argsV.toArray w (CPost P E.globals φ H w v H')

theorem callN_good {E : Env} (hE : EnvOK P names E) : ∀ n, GoodCall P E.globals (callN E n)
  | 0 => fun f args H v H' h => by simp [callN] at h
  | n + 1 => fun f args H v H' h => by
    simp only [callN] at h
    split at h
    · rename_i F hF
      exact hE.sums f F hF args H v H' h
    · split at h
      · cases h
      · rename_i x hx
        obtain ⟨fn, hfn, hlow, hname⟩ := hE.code f x hx
        unfold lowF at hlow
        split at hlow
        · cases hlow
        · rename_i c hc
          split at hlow
          · rename_i b r hb hres
            cases hlow
            refine ⟨⟨fn, hfn, by rw [hc]; rfl, hname⟩, fun φ w argsV hr hargs => ?_⟩
            refine calls_of_wp hfn hc ?_
            have fin : ∀ (e : Ex) (T' : Tm) (H1 : Hp) vs, (∀ id, e ≠ .exit id) → resA E.globals T' H1 r = some vs → After P E.globals fn.ntmps φ H w e T' H1 (bodyPost P fn (CPost P E.globals φ H w (resV vs) H1)) := by
              intro e T' H1 vs hne hres' a' w' φ' s1 s2 s3
              obtain ⟨us, g1, g2⟩ := resA_sound s1.fr s2 hres hres'
              have hbp : a'.defers = [] ∧ ∃ v, (results fn a'.tmps).run P w' = .ok v w' ∧ CPost P E.globals φ H w (resV vs) H1 (.returned v) w' := by
                refine ⟨s1.defers, _, ?_, _, φ', rfl, resV_sound g2, s2, s3⟩
                rw [results_eq, Array.mapM_eq_mapM_toList]
                simp only [Sem.run_bind, Sem.run_map]
                rw [g1]
                simp
              cases e with
              | normal => exact hbp
              | exit id => exact absurd rfl (hne id)
              | ret => exact hbp
            split at h
            · cases h
            · rename_i e T' H1 hne hbody
              split at h
              · rename_i vs hvs
                cases h
                exact (body_wp hE.mix (callN_good hE n) hE.meths n c b hb φ _ H _ w (frame_at hargs fn.ntmps) hr _ _ _).1 hbody _ (fin e T' H' vs (fun id he => by subst he; exact hne _ rfl) hvs)
              · cases h
            · cases h
          · cases hlow
end
end Go.Ev
