/-
A region that draws its order: the rule.
-/
import Derived.Test.YtodacahbeoekhaaGreatDoorEvS
namespace Go.Ev
section
variable {S : Set} {φ0 : Emb} {Hs : Hp} {w0 : World}

theorem Set.OK.all_done (ok : S.OK) {listed : Array Bool} {D : Nat → Prop} (hD : ∀ j, D j ↔ listed.getD j false = true) (hs : listed.size = S.ops.size) (hr : Region.ready .any S.ops listed = []) : ∀ n i, i < n → i < S.ops.size → D i
  | 0, i, h, _ => absurd h (Nat.not_lt_zero _)
  | n + 1, i, h, hi => by
    by_cases hl : listed.getD i false = true
    · exact (hD i).2 hl
    · exfalso
      have : i ∈ Region.ready .any S.ops listed := by
        unfold Region.ready
        rw [List.mem_filter]
        refine ⟨List.mem_range.2 hi, ?_⟩
        have hli : i < listed.size := by omega
        have e1 : listed.getD i true = listed.getD i false := by simp [hli]
        have e2 : listed.getD i false = false := by simpa using hl
        rw [e1, e2]
        simp only [Bool.not_false, Bool.true_and]
        have e3 : S.ops[i]? = some S.ops[i] := by simp [hi]
        rw [e3]
        simp only [Option.map_some, Option.getD_some, Array.all_eq_true']
        intro e he
        cases hb : Region.binds .any e with
        | false => rfl
        | true =>
          have hlt := ok.edge_lt hi (e := e) (by rw [Set.OK.oper_eq hi]; exact he) hb
          simp only [Bool.not_true, Bool.false_or]
          exact (hD e.on).1 (Set.OK.all_done ok hD hs hr n e.on (by omega) (by omega))
      rw [hr] at this
      cases this

theorem Set.OK.any (ok : S.OK) (hg0 : S.P.globals.size ≤ w0.heap.size) (hb0 : Hs.next = S.base) {Q : Exit → Act → World → Prop} (hQ : ∀ a w φ, FrOK φ (S.f S.l.length).T a S.nt → Rep S.P S.E.globals φ (S.f S.l.length).H w → Ext φ0 Hs w0 φ (S.f S.l.length).H w → Q .normal a w) :
    ∀ (fuel : Nat) (listed : Array Bool) (D : Nat → Prop) (φ : Emb) (k : Nat) (a : Act) (w : World), listed.size = S.ops.size → (∀ j, D j ↔ listed.getD j false = true) → (∀ i j, i < S.ops.size → D i → j < S.ops.size → anc S.A i j = true → D j) →
      Inv S φ0 Hs w0 D φ k w → FrI S D φ a → cnt listed.toList ≤ fuel → wpAny S.P .any S.ops Q fuel listed a w := by
  have fin : ∀ (listed : Array Bool) (D : Nat → Prop) (φ : Emb) (k : Nat) (a : Act) (w : World), listed.size = S.ops.size → (∀ j, D j ↔ listed.getD j false = true) → Inv S φ0 Hs w0 D φ k w → FrI S D φ a → Region.ready .any S.ops listed = [] → Q .normal a w := by
    intro listed D φ k a w hs hD inv hf hr
    have hall : ∀ i, i < S.ops.size → D i := fun i hi => ok.all_done hD hs hr (i + 1) i (Nat.lt_succ_self _) hi
    have hk : rank S.l S.l.length = k := by
      rw [rank_len]
      show S.m = k
      rcases Nat.lt_or_ge k S.m with h | h
      · obtain ⟨q, j, h1, h2, _, h4⟩ := ok.heavy_pos h
        have := (inv.heavy q j h1).1 (hall j h4)
        omega
      · exact Nat.le_antisymm h inv.le
    obtain ⟨p0, h1, h2, h3⟩ := ok.stage (Nat.le_refl S.l.length)
    rw [hk] at h2 h3
    obtain ⟨d, hd⟩ := Nat.le.dest h1
    obtain ⟨r1, r2, _, _⟩ := ok.abs hg0 inv h3 h2 (d := d) (by omega) (by rw [hd]; exact hk) fun r i c _ _ h => hall i (ok.at h).1
    rw [hd] at r1 r2
    exact hQ a w φ (ok.frEnd hf hall) r1 r2
  have cnt0 : ∀ (listed : Array Bool), listed.size = S.ops.size → cnt listed.toList = 0 → Region.ready .any S.ops listed = [] := by
    intro listed hs hc
    unfold Region.ready
    rw [List.filter_eq_nil_iff]
    intro i hi
    have hi := List.mem_range.1 hi
    have hli : i < listed.size := by omega
    have : listed[i] ≠ false := fun e => by
      have h0 := List.count_eq_zero.1 hc
      exact h0 (by rw [← e]; simp)
    have : listed.getD i true = true := by simp [hli]; simpa using this
    rw [this]
    simp
  intro fuel
  induction fuel with
  | zero =>
    intro listed D φ k a w hs hD hcl inv hf hc
    have h0 := cnt0 listed hs (by omega)
    exact ⟨h0, fin listed D φ k a w hs hD inv hf h0⟩
  | succ fuel ih =>
    intro listed D φ k a w hs hD hcl inv hf hc
    refine ⟨fin listed D φ k a w hs hD inv hf, fun i hi => ?_⟩
    unfold Region.ready at hi
    rw [List.mem_filter] at hi
    obtain ⟨hi, hr⟩ := hi
    have hi := List.mem_range.1 hi
    have hli : i < listed.size := by omega
    have e3 : S.ops[i]? = some S.ops[i] := by simp [hi]
    rw [e3] at hr
    simp only [Option.map_some, Option.getD_some, Bool.and_eq_true, Array.all_eq_true', Bool.not_eq_true'] at hr
    obtain ⟨hn, hedges⟩ := hr
    have hn0 : listed[i] = false := by simpa [hli] using hn
    have hnD : ¬ D i := by rw [hD]; simp [hli, hn0]
    have hanc : ∀ j, j < S.ops.size → anc S.A i j = true → D j := fun j hj ha => by
      obtain ⟨e, he, hb, h⟩ := ok.anc_edge hi hj ha
      rw [Set.OK.oper_eq hi] at he
      have := hedges e he
      rw [hb] at this
      have hDe : D e.on := (hD e.on).2 (by simpa using this)
      rcases h with rfl | h
      · exact hDe
      · have hlt := ok.edge_lt hi (e := e) (by rw [Set.OK.oper_eq hi]; exact he) hb
        exact hcl e.on j (by omega) hDe hj h
    refine ok.one hg0 hb0 inv hf e3 hnD hanc hcl fun φ' k' a' w' inv' hf' => ?_
    refine ih _ (fun j => j = i ∨ D j) φ' k' a' w' (by simp [hs]) (fun j => ?_) (fun i' j hi' hDi' hj ha => ?_) inv' hf' ?_
    · show (j = i ∨ D j) ↔ _
      by_cases e : i = j
      · subst e; simp [hli]
      · have hji : ¬ j = i := fun h => e h.symm
        have e1 : (listed.setIfInBounds i true).getD j false = listed.getD j false := by
          simp only [Array.getD_eq_getD_getElem?, Array.getElem?_setIfInBounds_ne e]
        rw [e1, hD]
        simp [hji]
    · rcases hDi' with rfl | h
      · exact .inr (hanc j hj ha)
      · exact .inr (hcl i' j hi' h hj ha)
    · have := cnt_set (l := listed.toList) (i := i) (by simp [hli, hn0])
      simp only [Array.toList_setIfInBounds]
      omega
end

section
variable {P : Program} {names : List String}

/-- The rule of a region that draws its order. -/
theorem rgd_wp {E : Env} {call : CallF} (hmix : P.follows .mixedOrders = true) (hg : GoodCall P E.globals call) (hm : methsOK P names E.meths = true) {id : Nat} {ops : Array Oper} {nt : Nat} {xs : List XI} {a : Nat} {l : List (Nat × Role)}
    (hlow : lowIs P names nt ops ops.toList = some xs) (hplan : ckPlan ops.toList a l = true) {φ : Emb} {T : Tm} {act : Act} {H : Hp} {w : World} (hf : FrOK φ T act nt) (hr : Rep P E.globals φ H w) {s : SD}
    (hrun : runD call E H.next (l.map fun x => (xs.getD x.1 default, x.2)) ⟨T, ⟨H.t, H.next.plus a⟩, 0, [(0, ⟨H.t, H.next.plus a⟩)], []⟩ = some s) {Q : Exit → Act → World → Prop}
    (hQ : ∀ a' w' φ', FrOK φ' s.T a' nt → Rep P E.globals φ' s.H w' → Ext φ H w φ' s.H w' → Q .normal a' w') : (Code.region id ops true).wp P Q act w := by
  obtain ⟨f, f0, f1, fstep⟩ := runD_states hrun
  have hlen : (l.map fun x => (xs.getD x.1 default, x.2)).length = l.length := by simp
  obtain ⟨V, v0, hV⟩ := states_hs _ f fstep (by rw [f0]) (by rw [f0]) (l.map fun x => (xs.getD x.1 default, x.2)).length (Nat.le_refl _)
  rw [hlen] at hV f1
  let S : Set := ⟨P, names, E, call, nt, ops, l, xs, a, H.next, f, V⟩
  have ok : S.OK := ⟨hg, hm, hlow, hplan, fstep, hV, v0, by show (f 0).k = 0; rw [f0], by show (f 0).H.next = _; rw [f0]⟩
  refine wp_region_any hmix ?_
  have hw0 : P.globals.size ≤ ({ w with drawn := w.drawn + 1 } : World).heap.size := hr.size
  have hr0 : Rep P E.globals φ ⟨H.t, H.next.plus a⟩ { w with drawn := w.drawn + 1 } :=
    ⟨hr.obj, hr.inj, fun i hi => hr.fresh i (by rw [Pos.toNat_plus] at hi; omega), hr.size, hr.glob⟩
  have he0 : Ext φ H { w with drawn := w.drawn + 1 } φ ⟨H.t, H.next.plus a⟩ { w with drawn := w.drawn + 1 } :=
    ⟨fun _ _ h => h, fun _ _ => rfl, fun i o b s n h1 h2 => .inr ⟨i, o, s, n, h1, h2⟩, fun _ _ _ => rfl, Nat.le_refl _, by rw [Pos.toNat_plus]; omega, rfl, rfl, rfl⟩
  have hVs : S.V 0 = ⟨H.t, H.next.plus a⟩ := by show V 0 = _; rw [v0, f0]
  refine ok.any (φ0 := φ) (Hs := H) (w0 := { w with drawn := w.drawn + 1 }) hw0 rfl (fun a' w' φ' h1 h2 h3 => ?_) ops.size (Array.replicate ops.size false) (fun _ => False) φ 0 act _ (by simp; rfl) (fun j => ?_) (fun _ _ _ h => h.elim) ?_ ?_ ?_
  · have e : S.f S.l.length = s := f1
    rw [e] at h1 h2 h3
    exact hQ a' w' φ' h1 h2 ((Ext.drew φ H w).trans h3)
  · by_cases h : j < ops.size <;> simp [h]
  · refine ⟨Nat.zero_le _, fun p i _ => ?_, hVs ▸ hr0, hVs ▸ he0, by rw [hVs]; exact Nat.le_refl _, fun _ _ _ _ h => h.elim, fun _ _ _ _ _ _ _ _ _ _ _ _ h => h.elim, fun p i c hx _ => ?_⟩
    · simp
    · refine hr.fresh _ ?_
      show H.next.toNat ≤ (H.next.plus c).toNat
      rw [Pos.toNat_plus]
      omega
  · refine ⟨fun _ _ _ _ _ _ _ _ h => h.elim, fun t ht _ => ?_, hf.room, hf.defers⟩
    show VR φ (opnd (f 0).T _) _
    rw [f0]
    exact hf.fr t ht
  · unfold cnt
    simp
end
end Go.Ev
