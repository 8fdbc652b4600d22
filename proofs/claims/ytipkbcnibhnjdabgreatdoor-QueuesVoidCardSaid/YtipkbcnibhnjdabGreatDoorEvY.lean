/-
What writes gives the model's value and world: entries, delete, append; all together.
-/
import Derived.Test.YtipkbcnibhnjdabGreatDoorEvWX
set_option linter.unusedVariables false
set_option linter.unusedSimpArgs false
namespace Go.Ev
section
variable {P : Program} {G : List (Nat × List AV)} {φ : Emb} {H : Hp} {w : World} {names : List String}

theorem stampA_sound {s : Int} : ∀ {es : List (AV × AV × Nat)} {l : List MapEntry} {i j : Nat} {k : AV} {b : Nat}, ERs φ es l → stampA s es i = some (j, k, b) →
    ∃ e, i ≤ j ∧ l[j - i]? = some e ∧ VR φ k e.key ∧ e.born = b ∧ l.findIdx? (fun e => (e.born : Int) == s) = some (j - i)
  | [], l, i, j, k, b, h, hs => by simp [stampA] at hs
  | (k', v', b') :: es, l, i, j, k, b, h, hs => by
    obtain ⟨e, l', rfl, h1, h2, h3, h4⟩ := h
    simp only [stampA] at hs
    split at hs
    · rename_i hq
      cases hs
      rw [eqI_eq] at hq
      refine ⟨e, Nat.le_refl _, by simp, h1, h3, ?_⟩
      have : ((e.born : Int) == s) = true := by rw [h3]; exact hq
      simp [List.findIdx?_cons, this]
    · rename_i hq
      obtain ⟨e', q1, q2, q3, q4, q5⟩ := stampA_sound h4 hs
      rw [eqI_eq] at hq
      have : ((e.born : Int) == s) = false := by rw [h3]; exact hq
      have hji : j - i = (j - (i + 1)) + 1 := by omega
      refine ⟨e', by omega, by rw [hji]; simpa using q2, q3, q4, ?_⟩
      rw [hji, List.findIdx?_cons, this, q5]
      simp

theorem W_entryStore (t : TypeId) (m s x : Operand) : WOk P G names (.entryStore t m s x) := by
  intro φ H H' w T a p v o ho hl hr hx he
  simp only [lowOp, Option.bind_eq_bind, Option.pure_def] at hl
  split at hl
  · rename_i kt e hu
    simp only [Option.bind_eq_some_iff, Option.some.injEq] at hl
    obtain ⟨m', hm', s', hs', x', hx', rfl⟩ := hl
    have vm := hx m (by simp [Op.operands]) m' hm'
    have vs := hx s (by simp [Op.operands]) s' hs'
    have vx := hx x (by simp [Op.operands]) x' hx'
    simp only [evalW] at he
    split at he
    · rename_i i kk n e1 e2
      rw [e1] at vm
      rw [e2] at vs
      obtain ⟨b, s0, n0, h1, vm⟩ := vm
      simp only [VR] at vs
      split at he
      · rename_i es clock hg
        obtain ⟨b', s', n', q1, _, co, q2, q3⟩ := hr.obj i _ hg
        rw [h1] at q1
        cases q1
        obtain ⟨l, rfl, hers⟩ := q3
        split at he
        · rename_i j k2 b2 hst
          cases he
          obtain ⟨me, _, g1, g2, g3, g4⟩ := stampA_sound hers hst
          simp only [Nat.sub_zero] at g1 g4
          obtain ⟨z1, z2⟩ := hr.setMap (c' := clock) hg h1 q2 (hers.set j (e := { me with val := a.eval x }) g2 vx g3)
          refine ⟨.skip, undef, _, φ, ?_, .inr ⟨rfl, rfl⟩, VR_undef φ, z1, z2⟩
          have hso := run_setObj (P := P) q2 (.map (l.set j { me with val := a.eval x }).toArray clock)
          have hmod := modify_set g1 fun e => { e with val := a.eval x }
          simp [execOp, ho, Instr.entryStore, vm, vs, getObj, Sem.run, q2, asInt, asIntOf, g4, hmod, hso]
        · cases he
      · cases he
    · cases he
  · cases hl

/-- Of a slice: how many, and its cells. -/
theorem sliceCells_sound (hr : Rep P G φ H w) {sz : Nat} {x : AV} {v : Value} (hx : VR φ x v) {xs : List AV} {n : Nat} (h : sliceCells H sz x = some (xs, n)) :
    ∃ base c, v = .slice base n c ∧ n ≤ c ∧ (n = 0 ∧ xs = [] ∨ ∃ b o us, base = some ⟨b, o, none⟩ ∧ us.length = n * sz ∧ VRs φ xs us ∧ ∀ (j : Nat) u, us[j]? = some u → w.cell? ⟨b, o + j, none⟩ = some u) := by
  unfold sliceCells at h
  split at h
  · cases h
    simp only [VR] at hx
    exact ⟨none, 0, hx, Nat.le_refl _, .inl ⟨rfl, rfl⟩⟩
  · rename_i i off len cap sz'
    obtain ⟨b, s, m, c, d, h1, h2, h3, h4, h5, h6⟩ := hx
    split at h
    · cases h
      exact ⟨_, c, h2, h3, .inl ⟨rfl, rfl⟩⟩
    · rename_i len
      split at h
      · rename_i cs hg
        split at h
        · rename_i l hl
          cases h
          obtain ⟨b', s', n', q1, _, co, q2, q3⟩ := hr.obj i _ hg
          rw [h1] at q1
          cases q1
          obtain ⟨cur, t, rfl, _, _, q4⟩ := q3
          obtain ⟨us, u1, u2, u3⟩ := OR.cut (n := 0) q4 hl
          have hd := h5 (by omega)
          subst hd
          refine ⟨_, c, h2, h3, .inr ⟨b, s + d, us, rfl, u1, u2, fun j u hj => ?_⟩⟩
          rw [cell_of_heap q2]
          exact u3 j u hj
        · cases h
      · cases h
  · cases h

theorem run_append_inplace {t ty e : TypeId} {i : TypeInfo} {b o sLen sCap n : Nat} {cur : Array Value} {tt : TypeId} {us : List Value} {xv : Value} (ht : P.underlying t = some (.slice e)) (hi : P.info? e = some i)
    (hb : w.heap[b]? = some (.cells cur tt (0, 0))) (hfit : o + sLen * i.size + us.length ≤ cur.size) (hone : ∀ v ∈ us, v.oneCell' = true) (hlen : Builtin.lenOf xv = pure n)
    (hf : (Builtin.firstCells i.size n xv).run P w = .ok us.toArray w) (hle : sLen + n ≤ sCap) :
    (Builtin.append_ #[t, t] ty #[.slice (some ⟨b, o, none⟩) sLen sCap, xv]).run P w =
      .ok (.slice (some ⟨b, o, none⟩) (sLen + n) sCap) (w.setRow b (cur.toList.take (o + sLen * i.size) ++ us ++ cur.toList.drop (o + sLen * i.size + us.length)).toArray) := by
  have hst := run_storeCells_at P b (o + sLen * i.size) tt us 0 cur w hb (by simpa using hfit) hone
  simp only [Nat.add_zero] at hst
  simp [Builtin.append_, run_underlying ht, sizeOf, typeInfo, hi, hlen, hle, hf, add_mk, hst]

theorem zeroCells_size (z : Array Value) (n : Nat) : (Builtin.zeroCells z n).size = n * z.size := by simp [Builtin.zeroCells]

theorem append_sound {t ty e : TypeId} {i : TypeInfo} {z : Value} (ht : P.underlying t = some (.slice e)) (hi : P.info? e = some i) (hz : i.zero = some z) (hzs : z.cells.size = i.size) (hs1 : 1 ≤ i.size)
    (hr : Rep P G φ H w) {s x : AV} {sv xv : Value} (vs : VR φ s sv) (vx : VR φ x xv) {v : AV} {H' : Hp} (h : appendA H i.size i.bytes s x = some (v, H')) :
    ∃ u w' φ', (Builtin.append_ #[t, t] ty #[sv, xv]).run P w = .ok u w' ∧ VR φ' v u ∧ Rep P G φ' H' w' ∧ Ext φ H w φ' H' w' := by
  unfold appendA at h
  split at h
  · cases h
  · rename_i xs hxs
    obtain ⟨base, c, rfl, hc, _⟩ := sliceCells_sound hr vx hxs
    have hfc : ∀ w, (Builtin.firstCells i.size 0 (.slice base 0 c)).run P w = .ok #[] w := fun w => by
      cases base <;> simp [Builtin.firstCells, loadCells, loadCellsFrom]
    split at h
    · cases h
      simp only [VR] at vs
      subst vs
      refine ⟨.slice none 0 0, w, φ, ?_, rfl, hr, Ext.refl φ H w⟩
      simp [Builtin.append_, run_underlying ht, sizeOf, typeInfo, hi, Builtin.lenOf, hfc]
    · rename_i i2 off len cap sz'
      cases h
      have vs0 := vs
      obtain ⟨b, s0, m, cc, d, h1, h2, h3, h4, h5, h6⟩ := vs
      subst h2
      refine ⟨_, w, φ, ?_, vs0, hr, Ext.refl φ H w⟩
      simp [Builtin.append_, run_underlying ht, sizeOf, typeInfo, hi, Builtin.lenOf, h3, hfc, storeCells]
    · cases h
  · rename_i xs n hxs
    obtain ⟨base, c, rfl, hc, hx2⟩ := sliceCells_sound hr vx hxs
    obtain ⟨bx, ox, us, rfl, hul, hur, hucell⟩ := hx2.resolve_left (by omega)
    have hnews : ∀ j v, us[j]? = some v → w.cell? ((⟨bx, ox, none⟩ : Addr).add j) = some v := fun j v hj => by rw [add_mk]; exact hucell j v hj
    have hfx : ∀ w', w'.heap = w.heap → (Builtin.firstCells i.size (n + 1) (.slice (some ⟨bx, ox, none⟩) (n + 1) c)).run P w' = .ok us.toArray w' := fun w' hw' =>
      run_firstCells_some w' i.size (n + 1) ⟨bx, ox, none⟩ (n + 1) c us hul fun j v hj => by
        have := hnews j v hj
        simpa [World.cell?, hw'] using this
    split at h
    · split at h
      · rename_i hb
        simp only [Bool.and_eq_true, Nat.ble_eq] at hb
        cases h
        simp only [VR] at vs
        subst vs
        have hrun := run_append_nil (P := P) w t ty e i z ht hi hz ⟨bx, ox, none⟩ (n + 1) c us hul hnews (by omega) (by omega) (by omega)
        have hge := grownCap_ge w (n + 1) 0 e
        have hr' : Rep P G φ H w.drew := hr.of_heap rfl
        have hor : OR φ 0 (grownCap w (n + 1) 0 e * i.size) (.cells xs) (.cells (us.toArray ++ Builtin.zeroCells z.cells (grownCap w (n + 1) 0 e - (n + 1))) e (0, 0)) := by
          have hmul : (n + 1) * i.size ≤ grownCap w (n + 1) 0 e * i.size := Nat.mul_le_mul_right _ hge
          refine ⟨_, e, rfl, ?_, ?_, fun j a hj => ?_⟩
          · simp [zeroCells_size, hzs, hul, Nat.sub_mul]; omega
          · rw [← hur.length, hul]; exact hmul
          · obtain ⟨u, h1, h2⟩ := hur.at hj
            refine ⟨u, ?_, h2⟩
            have hlt := (List.getElem?_eq_some_iff.1 h1).1
            rw [Nat.zero_add, Array.getElem?_append_left (by simpa using hlt)]
            simpa using h1
        obtain ⟨z1, z2⟩ := hr'.add hor
        refine ⟨_, _, _, hrun, ⟨_, 0, _, grownCap w (n + 1) 0 e, 0, upd_same _ _ _, rfl, hge, by omega, fun _ => rfl, fun x hx => by cases hx⟩, z1, (Ext.drew φ H w).trans z2⟩
      · cases h
    · rename_i i2 off len cap sz'
      split at h
      · rename_i old nOld cs hb hold hg
        simp only [Bool.and_eq_true, Nat.ble_eq] at hb
        obtain ⟨⟨⟨hbz, hb1⟩, hb2⟩, hone⟩ := hb
        have hbz := Nat.eq_of_beq_eq_true hbz
        subst hbz
        have vs0 := vs
        obtain ⟨b, s0, m, cc, d, h1, h2, h3, h4, h5, h6⟩ := vs
        subst h2
        obtain ⟨b', s', m', q1, qg, co, q2, q3⟩ := hr.obj i2 _ hg
        rw [h1] at q1
        cases q1
        obtain ⟨cur, tt, rfl, q4, q5, q6⟩ := q3
        have hone' := hur.oneCell hone
        -- the old cells
        have holds : ∃ os : List Value, os.length = len * i.size ∧ VRs φ old os ∧ (∀ j u, os[j]? = some u → cur[s0 + d + j]? = some u) := by
          obtain ⟨base, c2, e1, _, hh⟩ := sliceCells_sound hr vs0 hold
          cases e1
          rcases hh with ⟨rfl, rfl⟩ | ⟨bb, oo, os, e1, e2, e3, e4⟩
          · exact ⟨[], by simp, rfl, by simp⟩
          · cases e1
            exact ⟨os, e2, e3, fun j u hj => by have := e4 j u hj; rwa [cell_of_heap q2] at this⟩
        obtain ⟨os, ol, ovr, ocell⟩ := holds
        have okcell : ∀ j v, os[j]? = some v → w.cell? ((⟨b, s0 + d, none⟩ : Addr).add j) = some v := fun j v hj => by rw [add_mk, cell_of_heap q2]; exact ocell j v hj
        have newfit : ∀ cp, len + (n + 1) ≤ cp → d + cp * i.size ≤ m → s0 + d + len * i.size + us.length ≤ cur.size := fun cp h1 h2 => by
          have e1 : len * i.size + us.length = (len + (n + 1)) * i.size := by rw [hul, ← Nat.add_mul]
          have e2 : (len + (n + 1)) * i.size ≤ cp * i.size := Nat.mul_le_mul_right _ h1
          omega
        -- growing
        have grow : ∀ (H1 : Hp), Rep P G φ H1 w → Ext φ H w φ H1 w → H1.next = H.next → cc < len + (n + 1) →
            ∃ u w' φ', (Builtin.append_ #[t, t] ty #[.slice (some ⟨b, s0 + d, none⟩) len cc, .slice (some ⟨bx, ox, none⟩) (n + 1) c]).run P w = .ok u w' ∧ VR φ' (.slc H.next 0 (len + (n + 1)) none i.size) u ∧ Rep P G φ' (H1.add (.cells (old ++ xs))) w' ∧ Ext φ H w φ' (H1.add (.cells (old ++ xs))) w' := by
          intro H1 hr1 hext hnx hlt
          have hrun := run_append_grow (P := P) w t ty e i z ht hi hz ⟨b, s0 + d, none⟩ len cc os ol okcell ⟨bx, ox, none⟩ (n + 1) c us hul hnews hlt (by omega) (growslice_fits hlt hb1)
          have hge := grownCap_ge w (len + (n + 1)) cc e
          have hr' : Rep P G φ H1 w.drew := hr1.of_heap rfl
          have hor : OR φ 0 (grownCap w (len + (n + 1)) cc e * i.size) (.cells (old ++ xs)) (.cells (os.toArray ++ us.toArray ++ Builtin.zeroCells z.cells (grownCap w (len + (n + 1)) cc e - (len + (n + 1)))) e (0, 0)) := by
            have hmul : (len + (n + 1)) * i.size ≤ grownCap w (len + (n + 1)) cc e * i.size := Nat.mul_le_mul_right _ hge
            have hall := ovr.append hur
            have hlen : (os ++ us).length = (len + (n + 1)) * i.size := by simp [ol, hul, Nat.add_mul]
            refine ⟨_, e, rfl, ?_, ?_, fun j a hj => ?_⟩
            · have e1 : os.length + us.length = (len + (n + 1)) * i.size := by simpa using hlen
              simp [zeroCells_size, hzs, Nat.sub_mul]; omega
            · rw [← hall.length, hlen]; exact hmul
            · obtain ⟨u, h1, h2⟩ := hall.at hj
              refine ⟨u, ?_, h2⟩
              have hlt := (List.getElem?_eq_some_iff.1 h1).1
              rw [Nat.zero_add, Array.getElem?_append_left (by simpa using hlt)]
              simpa using h1
          obtain ⟨z1, z2⟩ := hr'.add hor
          refine ⟨_, _, _, hrun, ?_, z1, hext.trans ((Ext.drew φ H1 w).trans z2)⟩
          exact ⟨_, 0, _, grownCap w (len + (n + 1)) cc e, 0, by rw [← hnx]; exact upd_same _ _ _, rfl, hge, by omega, fun _ => rfl, fun x hx => by cases hx⟩
        -- in place, under a new number
        have renew : len + (n + 1) ≤ cc →
            ∃ u w' φ', (Builtin.append_ #[t, t] ty #[.slice (some ⟨b, s0 + d, none⟩) len cc, .slice (some ⟨bx, ox, none⟩) (n + 1) c]).run P w = .ok u w' ∧ VR φ' (.slc H.next 0 (len + (n + 1)) none i.size) u ∧ Rep P G φ' ((H.drop i2).add (.cells (old ++ xs))) w' ∧ Ext φ H w φ' ((H.drop i2).add (.cells (old ++ xs))) w' := by
          intro hle
          have hfit := newfit cc hle h4
          have hrun := run_append_inplace (P := P) (ty := ty) ht hi q2 hfit hone' (by rfl) (hfx w rfl) hle
          have hall := ovr.append hur
          have hlen : (os ++ us).length = (len + (n + 1)) * i.size := by simp [ol, hul, Nat.add_mul]
          have hmul : (len + (n + 1)) * i.size ≤ cc * i.size := Nat.mul_le_mul_right _ hle
          have hor : OR φ (s0 + d) (m - d) (.cells (old ++ xs)) (.cells (cur.toList.take (s0 + d + len * i.size) ++ us ++ cur.toList.drop (s0 + d + len * i.size + us.length)).toArray tt (0, 0)) := by
            have hsize : ((cur.toList.take (s0 + d + len * i.size) ++ us ++ cur.toList.drop (s0 + d + len * i.size + us.length)).toArray).size = cur.size := by simp; omega
            refine ⟨_, tt, rfl, by rw [hsize]; omega, by rw [← hall.length, hlen]; omega, fun j a hj => ?_⟩
            obtain ⟨u, k1, k2⟩ := hall.at hj
            refine ⟨u, ?_, k2⟩
            simp only [List.getElem?_toArray]
            by_cases hj2 : j < os.length
            · rw [List.getElem?_append_left hj2] at k1
              rw [List.append_assoc, List.getElem?_append_left (by simp; omega), List.getElem?_take_of_lt (by omega)]
              simpa using ocell j u k1
            · rw [List.getElem?_append_right (by omega)] at k1
              have hmin : min (s0 + d + len * i.size) cur.size = s0 + d + len * i.size := by omega
              have hlt2 := (List.getElem?_eq_some_iff.1 k1).1
              rw [List.append_assoc, List.getElem?_append_right (by simp; omega), List.getElem?_append_left (by simp [hmin]; omega)]
              simp only [List.length_take, Array.length_toList, hmin]
              rw [← k1]
              congr 1
              omega
          obtain ⟨z1, z2⟩ := hr.renew (w' := w.setRow b _) rfl hg h1 hor (setRow_size _ _ _) (setRow_heap w b cur _ tt _ q2) (fun k hk => setRow_other w b k _ hk) rfl rfl rfl
          refine ⟨_, _, _, hrun, ?_, z1, z2⟩
          exact ⟨b, s0 + d, m - d, cc, 0, upd_same _ _ _, by simp, hle, by omega, fun _ => rfl, fun x hx => by cases hx⟩
        split at h
        · rename_i cp
          have hcp := h6 cp rfl
          subst hcp
          split at h
          · rename_i hle
            have hle := Nat.le_of_ble_eq_true hle
            split at h
            · cases h
              have hos : os = [] := by simpa using ol
              subst hos
              have hold0 : old = [] := by cases old with | nil => rfl | cons a l => simp [VRs] at ovr
              subst hold0
              obtain ⟨u, w', φ', r1, r2, r3, r4⟩ := renew hle
              simp only [Nat.zero_add, List.nil_append] at r2 r3 r4
              exact ⟨u, w', φ', r1, r2, r3, r4⟩
            · rename_i len
              split at h
              · rename_i cs' hlay
                cases h
                have hd := h5 (by omega)
                subst hd
                have hfit := newfit cc hle h4
                have hrun := run_append_inplace (P := P) (ty := ty) ht hi q2 hfit hone' (by rfl) (hfx w rfl) hle
                obtain ⟨cur', t', k1, k2, k3, k4⟩ := hr.lay hg h1 hlay hur
                rw [q2] at k1
                cases k1
                refine ⟨_, _, φ, hrun, ?_, by rw [← Nat.add_assoc] at k3; exact k3, by rw [← Nat.add_assoc] at k4; exact k4⟩
                exact ⟨b, s0, m, cc, d, h1, rfl, hle, h4, fun _ => rfl, fun x hx => by cases hx; rfl⟩
              · cases h
          · rename_i hle
            cases h
            have hlt : cc < len + (n + 1) := by
              rcases Nat.lt_or_ge cc (len + (n + 1)) with h | h
              · exact h
              · rw [Nat.ble_eq_true_of_le h] at hle; cases hle
            exact grow H hr (Ext.refl φ H w) rfl hlt
        · cases h
          by_cases hle : len + (n + 1) ≤ cc
          · exact renew hle
          · obtain ⟨d1, d2⟩ := hr.dropAt i2
            exact grow (H.drop i2) d1 d2 rfl (by omega)
      · cases h
    · cases h
end
end Go.Ev
