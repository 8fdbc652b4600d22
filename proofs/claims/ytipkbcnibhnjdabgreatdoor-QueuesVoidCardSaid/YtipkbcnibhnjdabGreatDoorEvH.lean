/-
Lemmas on tries, cells, and on what a new block or a store makes of a heap and its world.
-/
import Derived.Test.YtipkbcnibhnjdabGreatDoorEvR
import Derived.Laws.CopyRow
set_option linter.unusedVariables false
set_option linter.unusedSimpArgs false
namespace Go.Ev

theorem Pos.toNat_pos : ∀ p : Pos, 0 < p.toNat
  | .h => by simp [Pos.toNat]
  | .o p => by have := Pos.toNat_pos p; simp [Pos.toNat]; omega
  | .i p => by simp [Pos.toNat]
theorem Pos.toNat_succ : ∀ p : Pos, p.succ.toNat = p.toNat + 1
  | .h => by simp [Pos.toNat, Pos.succ]
  | .o p => by simp [Pos.toNat, Pos.succ]
  | .i p => by have := Pos.toNat_succ p; simp [Pos.toNat, Pos.succ, this]; omega
theorem Pos.toNat_inj : ∀ {p r : Pos}, p.toNat = r.toNat → p = r
  | .h, .h, _ => rfl
  | .h, .o r, e => by have := Pos.toNat_pos r; simp [Pos.toNat] at e; omega
  | .h, .i r, e => by have := Pos.toNat_pos r; simp [Pos.toNat] at e; omega
  | .o p, .h, e => by have := Pos.toNat_pos p; simp [Pos.toNat] at e; omega
  | .o p, .o r, e => by simp only [Pos.toNat] at e; rw [Pos.toNat_inj (p := p) (r := r) (by omega)]
  | .o p, .i r, e => by simp [Pos.toNat] at e; omega
  | .i p, .h, e => by have := Pos.toNat_pos p; simp [Pos.toNat] at e; omega
  | .i p, .o r, e => by simp [Pos.toNat] at e; omega
  | .i p, .i r, e => by simp only [Pos.toNat] at e; rw [Pos.toNat_inj (p := p) (r := r) (by omega)]
theorem Pos.same_eq : ∀ {p r : Pos}, p.same r = true → p = r
  | .h, .h, _ => rfl
  | .h, .o _, e => by simp [Pos.same] at e
  | .h, .i _, e => by simp [Pos.same] at e
  | .o _, .h, e => by simp [Pos.same] at e
  | .o p, .o r, e => by simp [Pos.same] at e; rw [Pos.same_eq e]
  | .o _, .i _, e => by simp [Pos.same] at e
  | .i _, .h, e => by simp [Pos.same] at e
  | .i _, .o _, e => by simp [Pos.same] at e
  | .i p, .i r, e => by simp [Pos.same] at e; rw [Pos.same_eq e]
theorem Pos.same_self : ∀ p : Pos, p.same p = true
  | .h => rfl
  | .o p => by simp [Pos.same, Pos.same_self p]
  | .i p => by simp [Pos.same, Pos.same_self p]
theorem Pos.toNat_plus (p : Pos) : ∀ n, (p.plus n).toNat = p.toNat + n := by
  intro n
  induction n generalizing p with
  | zero => rfl
  | succ n ih => simp [Pos.plus, ih, Pos.toNat_succ]; omega

namespace Tr
variable {α : Type}
theorem get_putLf_same (x : Option α) : ∀ p : Pos, (putLf x p).get p = x
  | .h => rfl
  | .o p => get_putLf_same x p
  | .i p => get_putLf_same x p
theorem get_putLf_ne (x : Option α) : ∀ (p r : Pos), p ≠ r → (putLf x p).get r = none
  | .h, .h, h => absurd rfl h
  | .h, .o _, _ => get_lf _
  | .h, .i _, _ => get_lf _
  | .o _, .h, _ => rfl
  | .o p, .o r, h => get_putLf_ne x p r (fun e => h (by rw [e]))
  | .o _, .i _, _ => get_lf _
  | .i _, .h, _ => rfl
  | .i _, .o _, _ => get_lf _
  | .i p, .i r, h => get_putLf_ne x p r (fun e => h (by rw [e]))
theorem get_put_same (x : Option α) : ∀ (t : Tr α) (p : Pos), (t.put p x).get p = x
  | .lf, p => by rw [put_lf, get_putLf_same]
  | .nd _ _ _, .h => rfl
  | .nd _ l _, .o p => get_put_same x l p
  | .nd _ _ r, .i p => get_put_same x r p
theorem get_put_ne' (x : Option α) : ∀ (t : Tr α) (p r : Pos), p ≠ r → (t.put p x).get r = t.get r
  | .lf, p, r, h => by rw [put_lf, get_putLf_ne x _ _ h, get_lf]
  | .nd _ _ _, .h, .h, h => absurd rfl h
  | .nd _ _ _, .h, .o _, _ => rfl
  | .nd _ _ _, .h, .i _, _ => rfl
  | .nd _ _ _, .o _, .h, _ => rfl
  | .nd _ l _, .o p, .o r, h => get_put_ne' x l p r (fun e => h (by rw [e]))
  | .nd _ _ _, .o _, .i _, _ => rfl
  | .nd _ _ _, .i _, .h, _ => rfl
  | .nd _ _ _, .i _, .o _, _ => rfl
  | .nd _ _ r', .i p, .i r, h => get_put_ne' x r' p r (fun e => h (by rw [e]))
theorem get_put_ne (x : Option α) (t : Tr α) {p r : Pos} (h : p ≠ r) : (t.put p x).get r = t.get r := get_put_ne' x t p r h
theorem get_put (x : Option α) (t : Tr α) (p r : Pos) [DecidableEq Pos] : (t.put p x).get r = if p = r then x else t.get r := by
  split
  · rename_i h; subst h; exact get_put_same x t p
  · rename_i h; exact get_put_ne x t h
end Tr

theorem at?_eq : ∀ (l : List AV) (n : Nat), at? l n = l[n]?
  | [], n => by simp [at?]
  | a :: l, 0 => by simp [at?]
  | a :: l, n + 1 => by simp [at?, at?_eq l n]
theorem cut_eq : ∀ {cs : List AV} {off n : Nat} {l : List AV}, cut cs off n = some l → off + n ≤ cs.length ∧ l = (cs.drop off).take n
  | cs, 0, 0, l, h => by
    have : l = [] := by cases cs <;> simp [cut] at h <;> simp [h]
    simp [this]
  | [], 0, n + 1, l, h => by simp [cut] at h
  | c :: cs, 0, n + 1, l, h => by
    simp only [cut] at h
    split at h
    · rename_i m hm
      have := cut_eq hm
      simp at h this
      subst h
      simp [this]
    · simp at h
  | [], off + 1, n, l, h => by simp [cut] at h
  | c :: cs, off + 1, n, l, h => by
    simp only [cut] at h
    have := cut_eq h
    simp at this ⊢
    exact ⟨by omega, this.2⟩
theorem lay_eq : ∀ {cs : List AV} {off : Nat} {vs cs' : List AV}, lay cs off vs = some cs' → off + vs.length ≤ cs.length ∧ cs' = cs.take off ++ vs ++ cs.drop (off + vs.length)
  | cs, 0, [], cs', h => by
    have : cs' = cs := by cases cs <;> simp [lay] at h <;> simp [h]
    simp [this]
  | [], 0, v :: vs, cs', h => by simp [lay] at h
  | c :: cs, 0, v :: vs, cs', h => by
    simp only [lay] at h
    split at h
    · rename_i m hm
      have := lay_eq hm
      simp at h this
      subst h
      simp [this]
    · simp at h
  | [], off + 1, vs, cs', h => by simp [lay] at h
  | c :: cs, off + 1, vs, cs', h => by
    simp only [lay] at h
    split at h
    · rename_i m hm
      have := lay_eq hm
      simp at h
      subst h
      obtain ⟨h1, h2⟩ := this
      refine ⟨by simp; omega, ?_⟩
      simp [h2, Nat.add_right_comm off 1]
    · simp at h

theorem VRs.of_index {φ : Emb} : ∀ {l : List AV} {vs : List Value}, l.length = vs.length → (∀ (j : Nat) a v, l[j]? = some a → vs[j]? = some v → VR φ a v) → VRs φ l vs
  | [], vs, h, _ => by cases vs <;> simp_all [VRs]
  | a :: l, [], h, _ => by simp at h
  | a :: l, v :: vs, h, hh => ⟨v, vs, rfl, hh 0 a v rfl rfl, VRs.of_index (by simpa using h) fun j a v ha hv => hh (j + 1) a v (by simpa using ha) (by simpa using hv)⟩
theorem VRs.index {φ : Emb} {l : List AV} {vs : List Value} (h : VRs φ l vs) {j : Nat} {a : AV} {v : Value} (ha : l[j]? = some a) (hv : vs[j]? = some v) : VR φ a v := by
  obtain ⟨u, hu, hr⟩ := h.at (by rw [at?_eq]; exact ha)
  rw [hv] at hu
  cases hu
  exact hr

/-- The cells of an object, read. -/
theorem OR.cut {φ : Emb} {s n : Nat} {cs : List AV} {c : Array Value}
    (h : ∀ (j : Nat) a, at? cs j = some a → ∃ v, c[s + j]? = some v ∧ VR φ a v) {off k : Nat} {l : List AV} (hc : Ev.cut cs off k = some l) :
    ∃ us : List Value, us.length = k ∧ VRs φ l us ∧ ∀ (j : Nat) u, us[j]? = some u → c[s + off + j]? = some u := by
  obtain ⟨h1, rfl⟩ := cut_eq hc
  have hsz : ∀ j, j < k → ∃ v, c[s + off + j]? = some v := fun j hj => by
    obtain ⟨v, hv, _⟩ := h (off + j) (cs[off + j]'(by omega)) (by rw [at?_eq]; exact List.getElem?_eq_getElem (by omega))
    exact ⟨v, by rw [← hv]; congr 1; omega⟩
  refine ⟨(List.range k).map fun j => c.getD (s + off + j) undef, by simp, VRs.of_index (by simp; omega) ?_, ?_⟩
  · intro j a v ha hv
    have hj : j < k := by
      have := (List.getElem?_eq_some_iff.1 hv).1
      simpa using this
    rw [List.getElem?_take_of_lt hj, List.getElem?_drop] at ha
    obtain ⟨u, hu, hr⟩ := h (off + j) a (by rw [at?_eq]; exact ha)
    simp [hj] at hv
    rw [← Nat.add_assoc] at hu
    simp [hu] at hv
    subst hv
    exact hr
  · intro j u hu
    have hj : j < k := by
      have := (List.getElem?_eq_some_iff.1 hu).1
      simpa using this
    obtain ⟨v, hv⟩ := hsz j hj
    simp [hj] at hu
    simp [hv] at hu
    subst hu
    exact hv

def upd (φ : Emb) (i : Pos) (x : Nat × Nat × Nat) : Emb := fun j => if i.same j then some x else φ j
theorem upd_same (φ : Emb) (i : Pos) (x : Nat × Nat × Nat) : upd φ i x i = some x := by simp [upd, Pos.same_self]
theorem upd_ne (φ : Emb) {i j : Pos} (x : Nat × Nat × Nat) (h : i ≠ j) : upd φ i x j = φ j := by
  unfold upd
  split
  · rename_i e; exact absurd (Pos.same_eq e) h
  · rfl
theorem upd_mono {φ : Emb} {i : Pos} (x : Nat × Nat × Nat) (h : φ i = none) : ∀ j y, φ j = some y → upd φ i x j = some y := fun j y hj => by
  rw [upd_ne φ x (fun e => by subst e; rw [h] at hj; cases hj)]
  exact hj

section
variable {P : Program} {G : List (Nat × List AV)} {φ : Emb} {H : Hp} {w : World}

theorem Rep.of_heap {w' : World} (h : Rep P G φ H w) (e : w'.heap = w.heap) : Rep P G φ H w' :=
  ⟨by rw [e]; exact h.obj, h.inj, h.fresh, by rw [e]; exact h.size, by rw [e]; exact h.glob⟩
theorem Ext.drew (φ : Emb) (H : Hp) (w : World) : Ext φ H w φ H { w with drawn := w.drawn + 1 } :=
  ⟨fun _ _ h => h, fun _ _ => rfl, fun i o b s n h1 h2 => .inr ⟨i, o, s, n, h1, h2, id⟩, fun _ _ _ => rfl, Nat.le_refl _, Nat.le_refl _, rfl, rfl, rfl⟩

theorem Rep.block_lt (h : Rep P G φ H w) {i : Pos} {o : AObj} {b s n : Nat} (hi : H.t.get i = some o) (hb : φ i = some (b, s, n)) : b < w.heap.size := by
  obtain ⟨b', s', n', h1, _, c, hc, _⟩ := h.obj i o hi
  rw [hb] at h1
  cases h1
  exact (Array.getElem?_eq_some_iff.1 hc).1

theorem heap_alloc_get (w : World) (ob : Obj) (b : Nat) : (w.alloc ob).heap[b]? = if b = w.heap.size then some ob else w.heap[b]? := by
  show (w.heap.push ob)[b]? = _
  rw [Array.getElem?_push]

/-- A new block, under a number that is not taken. -/
theorem Rep.addAt (h : Rep P G φ H w) {i : Pos} {nx : Pos} {o : AObj} {ob : Obj} {n : Nat} (hge : H.next.toNat ≤ i.toNat) (hi : φ i = none) (hn : H.next.toNat ≤ nx.toNat) (hlt : i.toNat < nx.toNat) (ho : OR φ 0 n o ob) :
    Rep P G (upd φ i (w.heap.size, 0, n)) ⟨H.t.put i (some o), nx⟩ (w.alloc ob) ∧ Ext φ H w (upd φ i (w.heap.size, 0, n)) ⟨H.t.put i (some o), nx⟩ (w.alloc ob) := by
  have hm := upd_mono (φ := φ) (i := i) (w.heap.size, 0, n) hi
  have hz : H.t.get i = none := by
    cases hg : H.t.get i with
    | none => rfl
    | some o => obtain ⟨b, s, n, h1, _⟩ := h.obj i o hg; rw [hi] at h1; cases h1
  constructor
  · constructor
    · intro j o' hj
      by_cases e : i = j
      · subst e
        simp only [Tr.get_put_same] at hj
        cases hj
        refine ⟨w.heap.size, 0, n, upd_same _ _ _, h.size, ob, by rw [heap_alloc_get]; simp, ho.mono hm⟩
      · simp only [Tr.get_put_ne _ _ e] at hj
        obtain ⟨b, s, k, h1, h2, c, h3, h4⟩ := h.obj j o' hj
        have hb := h.block_lt hj h1
        exact ⟨b, s, k, hm _ _ h1, h2, c, by rw [heap_alloc_get, if_neg (by omega)]; exact h3, h4.mono hm⟩
    · intro j k o1 o2 b s1 n1 s2 n2 hj hk h1 h2
      by_cases e : i = j
      · subst e
        by_cases e' : i = k
        · exact e'
        · simp only [Tr.get_put_ne _ _ e'] at hk
          rw [upd_same] at h1
          rw [upd_ne _ _ e'] at h2
          cases h1
          have := h.block_lt hk h2
          omega
      · simp only [Tr.get_put_ne _ _ e] at hj
        rw [upd_ne _ _ e] at h1
        by_cases e' : i = k
        · subst e'
          rw [upd_same] at h2
          cases h2
          have := h.block_lt hj h1
          omega
        · simp only [Tr.get_put_ne _ _ e'] at hk
          rw [upd_ne _ _ e'] at h2
          exact h.inj j k o1 o2 b s1 n1 s2 n2 hj hk h1 h2
    · intro j hj
      have hij : i ≠ j := fun e => by subst e; simp at hj; omega
      rw [upd_ne _ _ hij]
      exact h.fresh j (by simp at hj; omega)
    · have := h.size
      simp
      omega
    · intro g cs hg
      obtain ⟨h1, c, t, f, h2, h3⟩ := h.glob g cs hg
      exact ⟨h1, c, t, f, by rw [heap_alloc_get, if_neg (by have := h.size; omega)]; exact h2, h3⟩
  · refine ⟨hm, fun j hj => upd_ne _ _ (fun e => by subst e; omega), ?_, ?_, by simp, hn, rfl, rfl, rfl⟩
    · intro j o' b s k hj h1
      by_cases e : i = j
      · subst e
        rw [upd_same] at h1
        cases h1
        exact .inl (Nat.le_refl _)
      · simp only [Tr.get_put_ne _ _ e] at hj
        rw [upd_ne _ _ e] at h1
        exact .inr ⟨j, o', s, k, hj, h1, id⟩
    · intro b hb _
      rw [heap_alloc_get, if_neg (by omega)]

theorem Rep.add (h : Rep P G φ H w) {o : AObj} {ob : Obj} {n : Nat} (ho : OR φ 0 n o ob) :
    Rep P G (upd φ H.next (w.heap.size, 0, n)) (H.add o) (w.alloc ob) ∧ Ext φ H w (upd φ H.next (w.heap.size, 0, n)) (H.add o) (w.alloc ob) :=
  h.addAt (Nat.le_refl _) (h.fresh _ (Nat.le_refl _)) (by simp [Pos.toNat_succ]) (by simp [Pos.toNat_succ]) ho

/-- An object of the heap turns: its block turns in the world. -/
theorem Rep.turn (h : Rep P G φ H w) {i : Pos} {o o' : AObj} {b s n : Nat} {w' : World} {c' : Obj} (hst : o.still = false) (hi : H.t.get i = some o) (hb : φ i = some (b, s, n)) (ho : OR φ s n o' c')
    (hsize : w'.heap.size = w.heap.size) (hat : w'.heap[b]? = some c') (hne : ∀ k, k ≠ b → w'.heap[k]? = w.heap[k]?) (hos : w'.os = w.os) (ht : w'.tape = w.tape) (hout : w'.output = w.output) :
    Rep P G φ (H.set i o') w' ∧ Ext φ H w φ (H.set i o') w' := by
  constructor
  · constructor
    · intro j p hj
      by_cases e : i = j
      · subst e
        simp only [Hp.set, Tr.get_put_same] at hj
        cases hj
        obtain ⟨b', s', n', h1, h2, _⟩ := h.obj i o hi
        rw [hb] at h1
        cases h1
        exact ⟨b, s, n, hb, h2, c', hat, ho⟩
      · simp only [Hp.set, Tr.get_put_ne _ _ e] at hj
        obtain ⟨b', s', n', h1, h2, c, h3, h4⟩ := h.obj j p hj
        have hbb : b' ≠ b := fun e' => e (by subst e'; exact h.inj i j o p b' s n s' n' hi hj hb h1)
        exact ⟨b', s', n', h1, h2, c, by rw [hne _ hbb]; exact h3, h4⟩
    · intro j k o1 o2 b1 s1 n1 s2 n2 hj hk h1 h2
      have hlive : ∀ {j : Pos} {o1 : AObj}, (H.set i o').t.get j = some o1 → ∃ o2, H.t.get j = some o2 := fun {j o1} hj => by
        by_cases e : i = j
        · subst e; exact ⟨o, hi⟩
        · simp only [Hp.set, Tr.get_put_ne _ _ e] at hj; exact ⟨o1, hj⟩
      obtain ⟨p1, hp1⟩ := hlive hj
      obtain ⟨p2, hp2⟩ := hlive hk
      exact h.inj j k p1 p2 b1 s1 n1 s2 n2 hp1 hp2 h1 h2
    · exact h.fresh
    · rw [hsize]; exact h.size
    · intro g cs hg
      obtain ⟨h1, c, t, f, h2, h3⟩ := h.glob g cs hg
      obtain ⟨b', s', n', h4, h5, _⟩ := h.obj i o hi
      rw [hb] at h4
      cases h4
      exact ⟨h1, c, t, f, by rw [hne _ (by omega)]; exact h2, h3⟩
  · refine ⟨fun _ _ x => x, fun _ _ => rfl, ?_, ?_, by omega, Nat.le_refl _, hos, ht, hout⟩
    · intro j p b' s' n' hj h1
      by_cases e : i = j
      · subst e; exact .inr ⟨i, o, s', n', hi, h1, fun e => by rw [hst] at e; cases e⟩
      · simp only [Hp.set, Tr.get_put_ne _ _ e] at hj; exact .inr ⟨j, p, s', n', hj, h1, id⟩
    · intro k _ hk
      exact hne k fun e => by have := hk i o s n hi (by rw [e]; exact hb); rw [hst] at this; cases this

/-- Cells stored into a block. -/
theorem Rep.lay (h : Rep P G φ H w) {i : Pos} {cs cs' vs : List AV} {us : List Value} {off b s n : Nat} (hi : H.t.get i = some (.cells cs)) (hb : φ i = some (b, s, n)) (hl : Ev.lay cs off vs = some cs')
    (hv : VRs φ vs us) : ∃ cur t, w.heap[b]? = some (.cells cur t (0, 0)) ∧ s + off + us.length ≤ cur.size ∧
      Rep P G φ (H.set i (.cells cs')) (w.setRow b (cur.toList.take (s + off) ++ us ++ cur.toList.drop (s + off + us.length)).toArray) ∧
      Ext φ H w φ (H.set i (.cells cs')) (w.setRow b (cur.toList.take (s + off) ++ us ++ cur.toList.drop (s + off + us.length)).toArray) := by
  obtain ⟨b', s', n', h1, h2, c, h3, h4⟩ := h.obj i _ hi
  rw [hb] at h1
  cases h1
  obtain ⟨cur, t, rfl, h5, h6, h7⟩ := h4
  obtain ⟨hoff, rfl⟩ := lay_eq hl
  have hlen := hv.length
  have hcur : s + off + us.length ≤ cur.size := by omega
  refine ⟨cur, t, h3, hcur, ?_⟩
  refine h.turn rfl hi hb ⟨_, t, rfl, ?_, ?_, ?_⟩ (setRow_size _ _ _) (setRow_heap w b cur _ t _ h3) (fun k hk => setRow_other w b k _ hk) rfl rfl rfl
  · simp; omega
  · simp; omega
  · intro j a hj
    rw [at?_eq] at hj
    simp only [List.getElem?_toArray]
    by_cases c1 : j < off
    · rw [List.append_assoc, List.getElem?_append_left (by simp; omega), List.getElem?_take_of_lt c1] at hj
      obtain ⟨v, hv1, hv2⟩ := h7 j a (by rw [at?_eq]; exact hj)
      refine ⟨v, ?_, hv2⟩
      rw [List.append_assoc, List.getElem?_append_left (by simp; omega), List.getElem?_take_of_lt (by omega)]
      simpa using hv1
    · by_cases c2 : j < off + vs.length
      · rw [List.append_assoc, List.getElem?_append_right (by simp; omega), List.getElem?_append_left (by simp; omega)] at hj
        have hmin : min off cs.length = off := by omega
        simp only [List.length_take, hmin] at hj
        obtain ⟨u, hu, hr⟩ := hv.at (by rw [at?_eq]; exact hj)
        refine ⟨u, ?_, hr⟩
        have hmin' : min (s + off) cur.size = s + off := by omega
        rw [List.append_assoc, List.getElem?_append_right (by simp; omega), List.getElem?_append_left (by simp; omega)]
        simp only [List.length_take, Array.length_toList, hmin']
        rw [← hu]
        congr 1
        omega
      · rw [List.getElem?_append_right (by simp; omega), List.getElem?_drop] at hj
        have hmin : min off cs.length = off := by omega
        simp only [List.length_append, List.length_take, hmin] at hj
        obtain ⟨v, hv1, hv2⟩ := h7 _ a (by rw [at?_eq]; exact hj)
        refine ⟨v, ?_, hv2⟩
        have hmin' : min (s + off) cur.size = s + off := by omega
        rw [List.getElem?_append_right (by simp; omega), List.getElem?_drop]
        simp only [List.length_append, List.length_take, Array.length_toList, hmin', Array.getElem?_toList]
        rw [← hv1]
        congr 1
        omega

end
end Go.Ev
