/-
A region that draws its order, whole.
-/
import Derived.Test.YtodacahbeoekhaaGreatDoorEvQ
namespace Go.Ev

def cnt (l : List Bool) : Nat := l.count false
theorem cnt_set : ∀ {l : List Bool} {i : Nat}, l[i]? = some false → cnt (l.set i true) + 1 = cnt l
  | [], _, h => by simp at h
  | b :: l, 0, h => by simp at h; subst h; simp [cnt]
  | b :: l, i + 1, h => by
    have := cnt_set (l := l) (i := i) (by simpa using h)
    simp only [cnt, List.set_cons_succ, List.count_cons] at this ⊢
    omega

section
variable {S : Set} {φ0 : Emb} {Hs : Hp} {w0 : World}

theorem Set.OK.one (ok : S.OK) (hg0 : S.P.globals.size ≤ w0.heap.size) (hb0 : Hs.next = S.base) {D : Nat → Prop} {φ : Emb} {k : Nat} {a : Act} {w : World} (inv : Inv S φ0 Hs w0 D φ k w) (hf : FrI S D φ a) {i : Nat} {o : Oper} (ho : S.ops[i]? = some o) (hn : ¬ D i) (hanc : ∀ j, j < S.ops.size → anc S.A i j = true → D j) (hcl : ∀ i j, i < S.ops.size → D i → j < S.ops.size → anc S.A i j = true → D j)
    {K : Act → World → Prop} {Q : Exit → Act → World → Prop} (hK : ∀ φ' k' a' w', Inv S φ0 Hs w0 (fun j => j = i ∨ D j) φ' k' w' → FrI S (fun j => j = i ∨ D j) φ' a' → K a' w') : wpOp S.P S.ops Q i K a w := by
  have hi : i < S.ops.size := (Array.getElem?_eq_some_iff.1 ho).1
  obtain ⟨p, r, hx⟩ := ok.pos hi
  obtain ⟨o', x, v, ho', hrow, hl, hdst, hd, hT⟩ := ok.keep hx
  rw [ho] at ho'
  cases ho'
  obtain ⟨p1, p2, p3, p4⟩ := lowI_parts hl
  have hpL : p ≤ S.l.length := Nat.le_of_lt (List.getElem?_eq_some_iff.1 hx).1
  have hpL' : p + 1 ≤ S.l.length := (List.getElem?_eq_some_iff.1 hx).1
  have hst := ok.step p _ hrow
  have htmp : ∀ t, t ∈ tmpsOf S.ops.toList o → t ≤ 100000 → VR φ (opnd (S.f p).T (.t (tpos t))) (a.tmps.getD t undef) := fun t hm ht => ok.tmpAt hf hx ho hn hanc ht hm
  have hop : ∀ y ∈ o.op.operands, OpR φ (S.f p).T a y := fun y hy => opR_of fun t e ht => htmp t (by
    unfold tmpsOf
    refine List.mem_append_left _ ?_
    rw [List.mem_filterMap]
    exact ⟨y, by simpa using hy, by rw [e]⟩) ht
  have hguard : ∀ b, wantedA (S.f p).T x.guard = some b → Region.wanted o (yielded S.ops a.tmps) = b := fun b hb => wanted_sound (φ := φ) p2 (fun j b' d hg hd' hle => htmp d (by
    unfold tmpsOf
    refine List.mem_append_right _ ?_
    rw [hg]
    simp only [Array.getElem?_toList, hd', Option.toList_some, List.mem_singleton]) hle) hb
  have hwant : ∀ b, wantedA (S.f p).T x.guard = some b → S.want p = some b := fun b hb => by simp [Set.want, hrow, hb]
  -- what a heavy one finds
  have heavyAt : r = .heavy → rank S.l p = k ∧ ∃ p0, p0 ≤ p ∧ rank S.l p0 = k ∧ (∀ r' i' c, p0 ≤ r' → r' < p → S.l[r']? = some (i', .alloc c) → D i') ∧ Rep S.P S.E.globals φ (S.f p).H w ∧ Ext φ0 Hs w0 φ (S.f p).H w ∧ (S.f p).H.next = (S.V k).next ∧
      (∀ j o', (S.f p).H.t.get j = some o' → (∃ o'', (S.V k).t.get j = some o'') ∨ ∃ r i c, p0 ≤ r ∧ r < p ∧ S.l[r]? = some (i, .alloc c) ∧ S.want r = some true ∧ j = S.base.plus c) ∧ S.V (k + 1) = (S.f (p + 1)).H := fun e => by
    subst e
    have hrk : rank S.l p = k := by
      have h1 := (not_congr (inv.heavy p i hx)).1 hn
      have h2 := ok.role hx
      simp only [] at h2
      cases hk : rank S.l p with
      | zero => omega
      | succ k1 =>
        have ha := h2 k1 hk
        have hk1 : k1 < S.m := by
          have := (rank_heavy hx S.ops.size).2
          unfold Set.m
          omega
        obtain ⟨q, j, h3, h4, h5, h6⟩ := ok.heavy_pos hk1
        rw [h5] at ha
        have := (inv.heavy q j h3).1 (hanc j h6 ha)
        omega
    obtain ⟨p0, h1, h2, h3⟩ := ok.stage hpL
    rw [hrk] at h2 h3
    have hdn : ∀ r' i' c, p0 ≤ r' → r' < p → S.l[r']? = some (i', .alloc c) → D i' := fun r' i' c h4 h5 h6 => by
      have hr' : rank S.l r' = k := by
        have g1 := rank_le (l := S.l) h4
        have g2 := rank_le (l := S.l) (Nat.le_of_lt h5)
        omega
      have g := (ok.role h6).2.2
      rw [hr'] at g
      have hm := (rank_heavy hx S.ops.size)
      rw [hrk] at hm
      rcases g with g | g
      · have := hm.2
        unfold Set.m at g
        omega
      · rw [hm.1] at g
        exact hanc i' (ok.at h6).1 g
    obtain ⟨d, rfl⟩ := Nat.le.dest h1
    obtain ⟨r1, r2, r3, r4⟩ := ok.abs hg0 inv h3 h2 hpL hrk hdn
    refine ⟨hrk, p0, h1, h2, hdn, r1, r2, r3, r4, ?_⟩
    have hs := stepD_hs hst
    simp only [] at hs
    have hh := (ok.hs _ hpL').1
    rw [hs.1, hs.2.1, ok.k_eq hpL, hrk] at hh
    simp only [hsOf, List.cons.injEq, Prod.mk.injEq, true_and] at hh
    exact hh.1.symm
  unfold wpOp
  rw [ho]
  simp only []
  cases hwa : wantedA (S.f p).T x.guard with
  | none => unfold stepD at hst; simp only [hwa] at hst; cases hst
  | some b =>
  rw [hguard b hwa]
  cases b with
  | false =>
    simp only [Bool.false_eq_true, if_false]
    have hT0 : (S.f (p + 1)).T = (S.f p).T.set (o.dst.map tpos) AV.undef := by
      rw [← p3]
      unfold stepD at hst
      simp only [hwa] at hst
      (repeat' split at hst) <;> first | (cases hst; done) | (simp only [Option.some.injEq] at hst; rw [← hst])
    have hfr := ok.frStep hf (fun _ _ h => h) hx ho hT0 hd (VR_undef φ)
    cases r with
    | heavy =>
      obtain ⟨hrk, p0, h1, h2, h3, r1, r2, r3, r4, hV⟩ := heavyAt rfl
      have eH : (S.f (p + 1)).H = (S.f p).H := by
        unfold stepD at hst
        simp only [hwa] at hst
        split at hst
        · simp only [Option.some.injEq] at hst; rw [← hst]
        · cases hst
      exact hK φ (k + 1) _ w (inv.turned ok hb0 hx hn hrk h2 h1 r2 r3 r4 h3 hV (eH ▸ r1) (eH ▸ Ext.refl φ _ w)) hfr
    | pure => exact hK φ k _ w (inv.idle ok hx hn trivial) hfr
    | read lo hi => exact hK φ k _ w (inv.idle ok hx hn trivial) hfr
    | alloc c => exact hK φ k _ w (inv.idle ok hx hn (by simp [Set.calm, hwant _ hwa])) hfr
  | true =>
    simp only [if_true]
    have value : ∀ H vv, Rep S.P S.E.globals φ H w → evalV S.E.globals (S.f p).T H x.op = some vv → (S.f (p + 1)).T = (S.f p).T.set x.dst vv → S.calm p r →
        o.wp S.P a w K Q := fun H vv hr he hT1 hrole => by
      obtain ⟨uv, r1, r2⟩ := evalV_sound o.op φ H w (S.f p).T a x.op vv o rfl p1 hr hop he
      unfold Oper.wp
      rw [r1]
      exact hK φ k _ w (inv.idle ok hx hn hrole) (ok.frStep hf (fun _ _ h => h) hx ho (p3 ▸ hT1) hd r2)
    cases r with
    | heavy =>
      obtain ⟨hrk, p0, h1, h2, h3, r1, r2, r3, r4, hV⟩ := heavyAt rfl
      unfold stepD at hst
      simp only [hwa] at hst
      split at hst
      · rename_i vv H' hev
        split at hst
        · simp only [Option.some.injEq] at hst
          have eH : (S.f (p + 1)).H = H' := by rw [← hst]
          have eT : (S.f (p + 1)).T = (S.f p).T.set x.dst vv := by rw [← hst]
          refine .inl (op_wp ok.good ok.meths p1 r1 hop hev fun u w' φ' s1 s2 s3 => ?_)
          exact hK φ' (k + 1) _ w' (inv.turned ok hb0 hx hn hrk h2 h1 r2 r3 r4 h3 hV (eH ▸ s2) (eH ▸ s3)) (ok.frStep hf s3.mono hx ho (p3 ▸ eT) hd s1)
        · cases hst
      · cases hst
    | pure =>
      unfold stepD at hst
      simp only [hwa] at hst
      split at hst
      · rename_i vv hev
        simp only [Option.some.injEq] at hst
        refine .inl (value ⟨.lf, (S.V k).next⟩ vv ?_ (by rw [← hev]; exact evalV_next ..) (by rw [← hst]) trivial)
        exact ⟨fun i o h => by simp [Tr.get_lf] at h, fun i j o o' b s n s' n' h => by simp [Tr.get_lf] at h, inv.rep.fresh, inv.rep.size, inv.rep.glob⟩
      · cases hst
    | read lo hi' =>
      have hlen : S.rows.length = S.l.length := by simp [Set.rows]
      obtain ⟨vv, e1, e2, e3⟩ := read_window (call := S.call) (E := S.E) (base := S.base) (l := S.rows) (f := S.f) (fun p x h => ok.step p x h) (V := S.V) (by rw [hlen]; exact ok.hs) hrow hwa
      rw [hlen, ok.k_eq (Nat.le_refl _), rank_len] at e3
      obtain ⟨g1, g2⟩ := ok.role hx
      refine .inl (value (S.V k) vv inv.rep (e3 k ?_ ?_ inv.le) e1 trivial)
      · cases lo with
        | zero => exact Nat.zero_le _
        | succ k1 =>
          obtain ⟨h1, h2⟩ := g1 k1 rfl
          obtain ⟨q, j, h3, h4, h5, h6⟩ := ok.heavy_pos h1
          rw [h5] at h2
          have := (inv.heavy q j h3).1 (hanc j h6 h2)
          omega
      · rcases Nat.lt_or_ge hi' S.m with hlt | hge
        · have g2 := g2.resolve_left (by omega)
          obtain ⟨q, j, h3, h4, h5, h6⟩ := ok.heavy_pos hlt
          rw [h5] at g2
          rcases Nat.lt_or_ge hi' k with hk | hk
          · exfalso
            -- j would have come up, and i ahead of it
            have hDj := (inv.heavy q j h3).2 (by omega)
            exact hn (hcl j i h6 hDj hi g2)
          · exact hk
        · exact Nat.le_trans inv.le hge
    | alloc c =>
      unfold stepD at hst
      simp only [hwa] at hst
      split at hst
      · rename_i ob bl hev
        simp only [Option.some.injEq] at hst
        obtain ⟨cob, n, r1, r2, r3⟩ := evalA_sound (G := S.E.globals) o.op φ (S.V k) w (S.f p).T a x.op ob bl o rfl p1 inv.rep hop hev
        refine .inl ?_
        unfold Oper.wp
        rw [r1]
        exact hK _ k _ _ (inv.alloc ok hb0 hx hn (o := ob) (bl := bl) (by simp only [Set.made, hrow, hev]) r2) (ok.frStep hf (upd_mono _ (inv.notyet p i c hx hn)) hx ho (v := bl.of (S.base.plus c)) (by rw [← p3, ← hst]) hd (r3 _ _ (upd_same _ _ _)))
      · cases hst
end
end Go.Ev
