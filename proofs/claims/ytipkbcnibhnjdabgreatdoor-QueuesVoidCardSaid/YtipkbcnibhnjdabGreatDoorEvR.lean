/-
How abstract values and heaps stand for the model's values and worlds.
-/
import Derived.Test.YtipkbcnibhnjdabGreatDoorEvC
import Derived.Below
set_option linter.unusedVariables false
set_option linter.unusedSimpArgs false
namespace Go.Ev

/-- Where an abstract block lies: the block, the first cell, how many cells from there on. -/
abbrev Emb := Pos → Option (Nat × Nat × Nat)

mutual
def VR (φ : Emb) : AV → Value → Prop
  | .bool b, v => v = .bool b
  | .int k n, v => v = .int k n
  | .str s, v => v = .string ⟨s.toArray⟩
  | .ptr i off, v => ∃ b s n, φ i = some (b, s, n) ∧ v = .pointer (some ⟨b, s + off, none⟩)
  | .gp g off, v => v = .pointer (some ⟨g, off, none⟩)
  | .nilp, v => v = .pointer none
  | .slc i off len cap sz, v => ∃ b s n c d, φ i = some (b, s, n) ∧ v = .slice (some ⟨b, s + d, none⟩) len c ∧ len ≤ c ∧ d + c * sz ≤ n ∧ (0 < len → d = off) ∧ (∀ x, cap = some x → c = x)
  | .nils, v => v = .slice none 0 0
  | .map i, v => ∃ b s n, φ i = some (b, s, n) ∧ v = .map (some b)
  | .nilm, v => v = .map none
  | .fn f first cap, v => ∃ fs cs, v = .func (.func (f.toNat - 1)) (List.toArray fs) (List.toArray cs) ∧ VRs φ first fs ∧ VRs φ cap cs
  | .nilf, v => v = .nilFunc
  | .ifc t x, v => ∃ u, v = .iface t u ∧ VR φ x u
  | .nili, v => v = .nilIface
  | .agg cs, v => ∃ vs, v = .agg (List.toArray vs) ∧ VRs φ cs vs
  | .tup cs, v => ∃ vs, v = .tuple (List.toArray vs) ∧ VRs φ cs vs
  | .any, _ => True
def VRs (φ : Emb) : List AV → List Value → Prop
  | [], vs => vs = []
  | a :: l, vs => ∃ v vs', vs = v :: vs' ∧ VR φ a v ∧ VRs φ l vs'
end

def ERs (φ : Emb) : List (AV × AV × Nat) → List MapEntry → Prop
  | [], es => es = []
  | (k, v, b) :: l, es => ∃ e es', es = e :: es' ∧ VR φ k e.key ∧ VR φ v e.val ∧ e.born = b ∧ ERs φ l es'

/-- What a veiled object may be. 0: a map of words, by what stands at each address. 1: rows of a layout, one behind the other. -/
def GA : Nat → List (List Int) → Nat → AObj → Prop
  | 0, m, _, .mp es cl => ∃ rs : List (List Int × Nat), es = rs.map memRow ∧ memOnce (rs.map (·.1)) ∧ (∀ r ∈ rs, r.2 < cl) ∧ (rs.map (·.2)).Nodup ∧ ∀ k a f, memGet (rs.map (·.1)) k a f = memGet m k a f
  | 1, m, c, .cells cs => cs = m.flatMap (rowCells (layOf c))
  | _, _, _, _ => False

/-- An abstract object and the model's object in its place. -/
def OR1 (φ : Emb) (s n : Nat) : AObj → Obj → Prop
  | .cells cs, o => ∃ c t, o = .cells c t (0, 0) ∧ s + n ≤ c.size ∧ cs.length ≤ n ∧ ∀ (j : Nat) a, at? cs j = some a → ∃ v, c[s + j]? = some v ∧ VR φ a v
  | .mp es clock, o => ∃ l, o = .map (List.toArray l) clock ∧ ERs φ es l
  | .gh .., _ => False
  | .ro .., _ => False
def OR (φ : Emb) (s n : Nat) : AObj → Obj → Prop
  | .cells cs, o => ∃ c t, o = .cells c t (0, 0) ∧ s + n ≤ c.size ∧ cs.length ≤ n ∧ ∀ (j : Nat) a, at? cs j = some a → ∃ v, c[s + j]? = some v ∧ VR φ a v
  | .mp es clock, o => ∃ l, o = .map (List.toArray l) clock ∧ ERs φ es l
  | .gh k m c, o => ∃ a, GA k m c a ∧ OR1 φ s n a o
  | .ro m l, o => ∃ c t f, o = .cells c t f ∧ s + n ≤ c.size ∧ (m.flatMap (rowCells (layOf l))).length ≤ n ∧ ∀ (j : Nat) a, at? (m.flatMap (rowCells (layOf l))) j = some a → ∃ v, c[s + j]? = some v ∧ VR φ a v
/-- nobody writes it -/
def _root_.Go.Ev.AObj.still : AObj → Bool
  | .ro .. => true
  | _ => false

structure Rep (P : Program) (G : List (Nat × List AV)) (φ : Emb) (H : Hp) (w : World) : Prop where
  obj : ∀ i o, H.t.get i = some o → ∃ b s n, φ i = some (b, s, n) ∧ P.globals.size ≤ b ∧ ∃ c, w.heap[b]? = some c ∧ OR φ s n o c
  inj : ∀ i j o o' b s n s' n', H.t.get i = some o → H.t.get j = some o' → φ i = some (b, s, n) → φ j = some (b, s', n') → i = j
  fresh : ∀ i, H.next.toNat ≤ i.toNat → φ i = none
  size : P.globals.size ≤ w.heap.size
  glob : ∀ g cs, (g, cs) ∈ G → g < P.globals.size ∧ ∃ c t f, w.heap[g]? = some (.cells c t f) ∧ ∀ (j : Nat) a, at? cs j = some a → ∃ v, c[j]? = some v ∧ ∀ ψ, VR ψ a v

/-- From one heap and world to a later one. -/
structure Ext (φ : Emb) (H : Hp) (w : World) (φ' : Emb) (H' : Hp) (w' : World) : Prop where
  mono : ∀ i x, φ i = some x → φ' i = some x
  same : ∀ i : Pos, i.toNat < H.next.toNat → φ' i = φ i
  img : ∀ i o b s n, H'.t.get i = some o → φ' i = some (b, s, n) → w.heap.size ≤ b ∨ ∃ j o' s' n', H.t.get j = some o' ∧ φ j = some (b, s', n') ∧ (o'.still = true → o.still = true)
  frame : ∀ b, b < w.heap.size → (∀ j o s n, H.t.get j = some o → φ j = some (b, s, n) → o.still = true) → w'.heap[b]? = w.heap[b]?
  size : w.heap.size ≤ w'.heap.size
  next : H.next.toNat ≤ H'.next.toNat
  os : w'.os = w.os
  tape : w'.tape = w.tape
  output : w'.output = w.output

theorem Ext.refl (φ : Emb) (H : Hp) (w : World) : Ext φ H w φ H w :=
  ⟨fun _ _ h => h, fun _ _ => rfl, fun i o b s n h1 h2 => .inr ⟨i, o, s, n, h1, h2, id⟩, fun _ _ _ => rfl, Nat.le_refl _, Nat.le_refl _, rfl, rfl, rfl⟩

theorem Ext.trans {φ φ' φ'' : Emb} {H H' H'' : Hp} {w w' w'' : World} (a : Ext φ H w φ' H' w') (b : Ext φ' H' w' φ'' H'' w'') : Ext φ H w φ'' H'' w'' where
  mono := fun i x h => b.mono i x (a.mono i x h)
  same := fun i h => (b.same i (Nat.lt_of_lt_of_le h a.next)).trans (a.same i h)
  img := fun i o bl s n h1 h2 => by
    rcases b.img i o bl s n h1 h2 with h | ⟨j, o', s', n', h3, h4, h5⟩
    · exact .inl (Nat.le_trans a.size h)
    · rcases a.img j o' bl s' n' h3 h4 with h | ⟨j2, o2, s2, n2, h6, h7, h8⟩
      · exact .inl h
      · exact .inr ⟨j2, o2, s2, n2, h6, h7, fun e => h5 (h8 e)⟩
  frame := fun bl hb hn => by
    rw [b.frame bl (Nat.lt_of_lt_of_le hb a.size) ?_]
    · exact a.frame bl hb hn
    · intro j o s n h1 h2
      rcases a.img j o bl s n h1 h2 with h | ⟨j', o', s', n', h3, h4, h5⟩
      · omega
      · exact h5 (hn j' o' s' n' h3 h4)
  size := Nat.le_trans a.size b.size
  next := Nat.le_trans a.next b.next
  os := b.os.trans a.os
  tape := b.tape.trans a.tape
  output := b.output.trans a.output

-- monotony
mutual
theorem VR.mono {φ ψ : Emb} (h : ∀ i x, φ i = some x → ψ i = some x) : ∀ (a : AV) (v : Value), VR φ a v → VR ψ a v
  | .bool _, _, hv => hv
  | .int _ _, _, hv => hv
  | .str _, _, hv => hv
  | .ptr i off, v, ⟨b, s, n, h1, h2⟩ => ⟨b, s, n, h _ _ h1, h2⟩
  | .gp _ _, _, hv => hv
  | .nilp, _, hv => hv
  | .slc .., _, ⟨b, s, n, c, d, h1, h2⟩ => ⟨b, s, n, c, d, h _ _ h1, h2⟩
  | .nils, _, hv => hv
  | .map _, _, ⟨b, s, n, h1, h2⟩ => ⟨b, s, n, h _ _ h1, h2⟩
  | .nilm, _, hv => hv
  | .fn _ first cap, _, ⟨fs, cs, h1, h2, h3⟩ => ⟨fs, cs, h1, VRs.mono h first fs h2, VRs.mono h cap cs h3⟩
  | .nilf, _, hv => hv
  | .ifc _ x, _, ⟨u, h1, h2⟩ => ⟨u, h1, VR.mono h x u h2⟩
  | .nili, _, hv => hv
  | .agg cs, _, ⟨vs, h1, h2⟩ => ⟨vs, h1, VRs.mono h cs vs h2⟩
  | .tup cs, _, ⟨vs, h1, h2⟩ => ⟨vs, h1, VRs.mono h cs vs h2⟩
  | .any, _, _ => trivial
theorem VRs.mono {φ ψ : Emb} (h : ∀ i x, φ i = some x → ψ i = some x) : ∀ (l : List AV) (vs : List Value), VRs φ l vs → VRs ψ l vs
  | [], _, hv => hv
  | a :: l, _, ⟨v, vs', h1, h2, h3⟩ => ⟨v, vs', h1, VR.mono h a v h2, VRs.mono h l vs' h3⟩
end

theorem ERs.mono {φ ψ : Emb} (h : ∀ i x, φ i = some x → ψ i = some x) : ∀ (l : List (AV × AV × Nat)) (es : List MapEntry), ERs φ l es → ERs ψ l es
  | [], _, hv => hv
  | (_, _, _) :: l, _, ⟨e, es', h1, h2, h3, h4, h5⟩ => ⟨e, es', h1, VR.mono h _ _ h2, VR.mono h _ _ h3, h4, ERs.mono h l es' h5⟩

theorem OR1.mono {φ ψ : Emb} (h : ∀ i x, φ i = some x → ψ i = some x) {s n : Nat} {o : AObj} {c : Obj} (ho : OR1 φ s n o c) : OR1 ψ s n o c := by
  cases o with
  | cells cs =>
    obtain ⟨c, t, rfl, h1, h2, h3⟩ := ho
    exact ⟨c, t, rfl, h1, h2, fun j a hj => let ⟨v, hv, hr⟩ := h3 j a hj; ⟨v, hv, hr.mono h⟩⟩
  | mp es clock =>
    obtain ⟨l, rfl, h1⟩ := ho
    exact ⟨l, rfl, h1.mono h⟩
  | gh => exact ho
  | ro => exact ho
theorem OR.mono {φ ψ : Emb} (h : ∀ i x, φ i = some x → ψ i = some x) {s n : Nat} {o : AObj} {c : Obj} (ho : OR φ s n o c) : OR ψ s n o c := by
  cases o with
  | cells cs =>
    obtain ⟨c, t, rfl, h1, h2, h3⟩ := ho
    exact ⟨c, t, rfl, h1, h2, fun j a hj => let ⟨v, hv, hr⟩ := h3 j a hj; ⟨v, hv, hr.mono h⟩⟩
  | mp es clock =>
    obtain ⟨l, rfl, h1⟩ := ho
    exact ⟨l, rfl, h1.mono h⟩
  | gh k m c =>
    obtain ⟨a, h1, h2⟩ := ho
    exact ⟨a, h1, h2.mono h⟩
  | ro m l =>
    obtain ⟨c, t, f, rfl, h1, h2, h3⟩ := ho
    exact ⟨c, t, f, rfl, h1, h2, fun j a hj => let ⟨v, hv, hr⟩ := h3 j a hj; ⟨v, hv, hr.mono h⟩⟩

theorem VRs.length {φ : Emb} : ∀ {l : List AV} {vs : List Value}, VRs φ l vs → vs.length = l.length
  | [], _, h => by simp [VRs] at h; simp [h]
  | _ :: l, _, ⟨_, vs', h1, _, h3⟩ => by subst h1; simp [VRs.length h3]

theorem VRs.append {φ : Emb} : ∀ {l m : List AV} {vs us : List Value}, VRs φ l vs → VRs φ m us → VRs φ (l ++ m) (vs ++ us)
  | [], _, _, _, h, h' => by simp [VRs] at h; simpa [h] using h'
  | _ :: l, _, _, _, ⟨v, vs', h1, h2, h3⟩, h' => by subst h1; exact ⟨v, vs' ++ _, rfl, h2, VRs.append h3 h'⟩

theorem VRs.at {φ : Emb} : ∀ {l : List AV} {vs : List Value}, VRs φ l vs → ∀ {j : Nat} {a : AV}, at? l j = some a → ∃ v, vs[j]? = some v ∧ VR φ a v
  | [], _, _, _, _, h => by simp [at?] at h
  | a :: l, _, ⟨v, vs', h1, h2, h3⟩, 0, a', h => by
    subst h1
    simp [at?] at h
    subst h
    exact ⟨v, rfl, h2⟩
  | a :: l, _, ⟨v, vs', h1, h2, h3⟩, j + 1, a', h => by
    subst h1
    simp [at?] at h
    simpa using VRs.at h3 h

end Go.Ev
