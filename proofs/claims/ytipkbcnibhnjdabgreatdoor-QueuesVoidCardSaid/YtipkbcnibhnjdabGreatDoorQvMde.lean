/-
Joined texts.
-/
import Derived.Test.YtipkbcnibhnjdabGreatDoorQvMc
import Derived.Test.YtipkbcnibhnjdabGreatDoorEvMB
set_option linter.unusedVariables false
set_option linter.unusedSimpArgs false
/-
The other memory's own functions: a store.
-/
namespace Go.Proofs.YtipkbcnibhnjdabGreatDoor
open Go Go.Ev
set_option maxRecDepth 1000000

theorem realOf_some {C : CSum} {args : List AV} {H : Hp} {v : AV} {H' : Hp} (h : realOf C args H = some (v, H')) : ∃ obs, C args H = some (v, H', obs) ∧ allOb obs := by
  unfold realOf at h
  split at h
  · rename_i v1 H1 obs hc
    split at h
    · rename_i ho
      cases h
      exact ⟨obs, hc, ho⟩
    · cases h
  · cases h
noncomputable def cWord : CSum := fun args H => match args with
  | [.ptr i 0, .agg [.int .u8 k, .int .i64 a, .int .i64 f]] => match H.t.get i with
    | some (.cells [.nils, .int .i64 s, _, _, _, _, _, _, _]) => some (.int .u64 0, ⟨H.t.put i (some (.cells (.nils :: hd7 s))), H.next⟩, [])
    | some (.cells [.slc j 0 len none 4, .int .i64 s, _, _, _, _, _, _, _]) => match H.t.get j with
      | some (.gh 1 ml 0) => some (.int .u64 (memGet ml k a f), ⟨(H.t.put i (some (.cells (.slc j 0 len none 4 :: hd7 s)))).put j (some (.gh 1 ml 0)), H.next⟩, [.nat len ml.length, .lt ml.length 4000000000])
      | _ => none
    | _ => none
  | _ => none
theorem cWord_ok (p : PhT) : SumQ Tryz.prog (Es p .lf).globals (q 68) (realOf cWord) := SumQ.of fun args H v H' h => by
  obtain ⟨obs, hc, ho⟩ := realOf_some h
  unfold cWord at hc
  split at hc
  · rename_i i k a f
    split at hc
    · rename_i s x1 x2 x3 x4 x5 x6 x7 hi
      cases hc
      exact (word_none p s k a f).lift_nn rfl rfl rfl hi
    · rename_i j len s x1 x2 x3 x4 x5 x6 x7 hi
      split at hc
      · rename_i ml hj
        cases hc
        obtain ⟨h1, h2, _⟩ := ho
        have h1 : len = ml.length := h1
        subst h1
        exact (word_some p h2 s k a f).lift_same rfl rfl rfl hi hj
      · cases hc
    · cases hc
  · cases hc

def putL : List (List Int) → Int → Int → Int → Int → List (List Int)
  | [], k, a, f, v => [[k, a, f, v]]
  | r :: m, k, a, f, v => match isAt r k a f with
    | true => [k, a, f, v] :: m
    | false => r :: putL m k a f v
theorem putL_found {k a f v : Int} : ∀ {m : List (List Int)} {i : Nat}, (∀ j, j < i → isAt (m.getD j []) k a f = false) → i < m.length → isAt (m.getD i []) k a f = true → putL m k a f v = m.set i [k, a, f, v]
  | [], i, _, h, _ => by simp at h
  | r :: m, 0, _, _, h => by
    have h : isAt r k a f = true := h
    simp only [putL, h, List.set_cons_zero]
  | r :: m, i + 1, hn, hi, h => by
    have h0 : isAt r k a f = false := hn 0 (Nat.succ_pos i)
    simp only [putL, h0, List.set_cons_succ]
    rw [putL_found (m := m) (i := i) (fun j hj => hn (j + 1) (Nat.succ_lt_succ hj)) (by simpa using hi) h]
theorem putL_none {k a f v : Int} : ∀ {m : List (List Int)}, (∀ j, j < m.length → isAt (m.getD j []) k a f = false) → putL m k a f v = m ++ [[k, a, f, v]]
  | [], _ => rfl
  | r :: m, hn => by
    have h0 : isAt r k a f = false := hn 0 (by simp)
    simp only [putL, h0, List.cons_append]
    rw [putL_none (m := m) (fun j hj => hn (j + 1) (by simpa using hj))]
theorem lay_of : ∀ (cs : List AV) (off : Nat) (vs : List AV), off + vs.length ≤ cs.length → lay cs off vs = some (cs.take off ++ vs ++ cs.drop (off + vs.length))
  | cs, 0, [], _ => by simp [lay]
  | c :: cs, 0, v :: vs, h => by
    have h : 0 + vs.length ≤ cs.length := by simp at h; omega
    simp only [lay, lay_of cs 0 vs h]
    simp
  | c :: cs, off + 1, vs, h => by
    have h : off + vs.length ≤ cs.length := by simp at h; omega
    simp only [lay, lay_of cs off vs h]
    have e : off + 1 + vs.length = (off + vs.length) + 1 := by omega
    rw [e]
    simp
  | [], 0, v :: vs, h => by simp at h
  | [], off + 1, vs, h => by simp at h
theorem lay_left {vs : List AV} : ∀ {cs : List AV} {off : Nat} {cs' rest : List AV}, lay cs off vs = some cs' → lay (cs ++ rest) off vs = some (cs' ++ rest) := by
  intro cs off cs' rest h
  obtain ⟨h1, rfl⟩ := lay_eq h
  exact lay_of (cs ++ rest) off vs (by simp; omega) |>.trans (by
    congr 1
    rw [List.take_append_of_le_length (by omega), List.drop_append_of_le_length (by omega)]
    simp)
theorem lay_right {vs cs : List AV} {off : Nat} {rest rest' : List AV} (h : lay rest off vs = some rest') : lay (cs ++ rest) (cs.length + off) vs = some (cs ++ rest') := by
  obtain ⟨h1, rfl⟩ := lay_eq h
  exact lay_of (cs ++ rest) (cs.length + off) vs (by simp; omega) |>.trans (by
    congr 1
    rw [List.take_length_add_append, show cs.length + off + vs.length = cs.length + (off + vs.length) by omega, List.drop_length_add_append]
    simp)
theorem lay_row {c : Nat} {vs : List AV} {j : Nat} {r2 : List Int} : ∀ {m : List (List Int)} {q : Nat}, q < m.length → lay (rowCells (layOf c) (m.getD q [])) j vs = some (rowCells (layOf c) r2) → lay (m.flatMap (rowCells (layOf c))) (q * (layOf c).length + j) vs = some ((m.set q r2).flatMap (rowCells (layOf c)))
  | [], q, h, _ => by simp at h
  | r :: m, 0, _, h => by
    simp only [List.flatMap_cons, Nat.zero_mul, Nat.zero_add, List.set_cons_zero]
    exact lay_left h
  | r :: m, q + 1, hq, h => by
    simp only [List.flatMap_cons, List.set_cons_succ]
    have e : (q + 1) * (layOf c).length + j = (rowCells (layOf c) r).length + (q * (layOf c).length + j) := by rw [rowCells_length, Nat.add_mul]; omega
    rw [e]
    exact lay_right (lay_row (by simpa using hq) h)

def fl (ml : List (List Int)) : List AV := ml.flatMap (rowCells (layOf 0))
/-- where put's loop stands -/
noncomputable def pT (v : Int) (i : Nat) : Tm := mkT [(q 1, .ptr (q 1) 0), (q 3, .int .u64 v), (q 5, .ptr (q 3) 0), (q 7, .int .i64 (.ofNat i))]
def pK (k a f : Int) : AObj := .cells [.int .u8 k, .int .i64 a, .int .i64 f]
def pS (n : Pos) (len : Nat) (s : Int) : AObj := .cells (.slc n 0 len none 4 :: hd7 s)
noncomputable def pH (ml : List (List Int)) (s k a f : Int) : Hp := ⟨mkT [(q 1, pS (q 2) ml.length s), (q 2, .cells (fl ml)), (q 3, pK k a f)], q 4⟩
def pl (ml : List (List Int)) (s k a f : Int) : List (Pos × AObj × AObj) := [(q 1, pS (q 2) ml.length s, pS (q 2) ml.length s), (q 2, .cells (fl ml), .cells (fl ml)), (q 3, pK k a f, pK k a f)]
theorem fl_flat (ml : List (List Int)) : AV.flats (fl ml) = true := flatMap_flat _ ml
theorem pl_rel (ml : List (List Int)) (s k a f : Int) : allRel (tabR (q 3) (q 100) [(q 3, q 3)]) (pl ml s k a f) := ⟨relR (by kernel_rfl), relR (by show AObj.cells _ = _; rw [flats_ren (fl_flat ml)]), relR (by kernel_rfl), trivial⟩
/-- what put leaves: the rows lie anew -/
noncomputable def rH (ml : List (List Int)) (len : Nat) (hd : List AV) : Hp := ⟨mkT (hr1 (q 3) len ml hd), q 4⟩
abbrev rSem (p : PhT) (nt : Nat) (φ0 : Emb) (w0 : World) (ml : List (List Int)) (s : Int) (x : XC) (T : Tm) (H : Hp) (Q : Ex → Tm → Hp → Prop) : Prop := Go.Ev.Sem Tryz.prog names (Es p .lf).globals nt φ0 ⟨mkT (hr1 (q 2) ml.length ml (hd7 s)), q 3⟩ w0 x T H Q
def pL : XC := sub0 (sub0 (sub1 (sub0 (sub1 (sub1 x68.body)))))
def row3 (r : List Int) : List AV := [.int .u8 (rowI r 0), .int .i64 (rowI r 1), .int .i64 (rowI r 2)]
theorem cut3 {ml : List (List Int)} {i : Nat} (hi : i < ml.length) : cut (fl ml) (0 + i * 4 + 0) 3 = some (row3 (ml.getD i [])) := by
  have e : 0 + i * 4 + 0 = i * (layOf 0).length + 0 := by show _ = i * 4 + 0; omega
  rw [e]
  exact row_cut (c := 0) (j := 0) (n := 3) (l := row3 (ml.getD i [])) hi rfl
section
variable {p : PhT} {nt : Nat} {φ0 : Emb} {w0 : World} {ml : List (List Int)} {s k a f v : Int}
theorem p_next (h0 : ∀ i : Pos, (q 3).toNat ≤ i.toNat → φ0 i = none) {i : Nat} (hb : i < 4000000000) (hi : i < ml.length) (hm : isAt (ml.getD i []) k a f = false) {Q : Ex → Tm → Hp → Prop} (hQ : Q .normal (pT v (i + 1)) (pH ml s k a f)) : rSem p nt φ0 w0 ml s pL (pT v i) (pH ml s k a f) Q :=
  Sem.view (E0_ok p) h0 (mk0_for .lf _) (ms := [q 17, q 25, q 27, q 29, q 19]) (N := 20) (n := 20) [bs true, .idx i, .cut (row3 (ml.getD i [])), .cmp false, .val (.int .i64 (.ofNat (i + 1)))] (q 100) (q 4) [(q 3, q 3)] [(q 1, .ptr (q 1) 0), (q 3, .int .u64 v), (q 5, .ptr (q 3) 0), (q 7, .int .i64 (.ofNat (i + 1)))] (pl ml s k a f) (e := .normal)
    (ob := [.av (.int .i64 (wrapF .i64 (.ofNat i + 1))) (.int .i64 (.ofNat (i + 1))), .cmp keyD (.agg (row3 (ml.getD i []))) (keyA k a f) false, .cut (fl ml) (0 + i * 4 + 0) 3 (row3 (ml.getD i [])), .lt i ml.length, .av (.int .i64 (.ofNat i)) (.int .i64 (.ofNat i)), .av (.bool (ltI (.ofNat i) (.ofNat ml.length))) (.bool true)]) (by kernel_rfl)
    ⟨by show AV.int _ _ = AV.int _ _; rw [wrap_succ (by omega)], by show eqV _ _ _ = _; rw [row3, eqV_row, hm], cut3 hi, hi, rfl, by show AV.bool _ = _; rw [ltI_nat, decide_eq_true hi], trivial⟩ (by kernel_rfl) (by kernel_rfl) (by kernel_rfl) (pl_rel ml s k a f) (by kernel_rfl) hQ
theorem p_end (h0 : ∀ i : Pos, (q 3).toNat ≤ i.toNat → φ0 i = none) {i : Nat} (hi : ¬ i < ml.length) {Q : Ex → Tm → Hp → Prop} (hQ : Q (.exit 0) (mkT [(q 1, .ptr (q 1) 0), (q 3, .int .u64 v), (q 5, .ptr (q 3) 0)]) (pH ml s k a f)) : rSem p nt φ0 w0 ml s pL (pT v i) (pH ml s k a f) Q :=
  Sem.view (E0_ok p) h0 (mk0_for .lf _) (ms := [q 17]) (N := 20) (n := 20) [bs false] (q 100) (q 4) [(q 3, q 3)] [(q 1, .ptr (q 1) 0), (q 3, .int .u64 v), (q 5, .ptr (q 3) 0)] (pl ml s k a f) (e := .exit 0)
    (ob := [.av (.bool (ltI (.ofNat i) (.ofNat ml.length))) (.bool false)]) (by kernel_rfl)
    ⟨by show AV.bool _ = _; rw [ltI_nat, decide_eq_false hi], trivial⟩ (by kernel_rfl) (by kernel_rfl) (by kernel_rfl) (pl_rel ml s k a f) (by kernel_rfl) hQ
theorem p_found (h0 : ∀ i : Pos, (q 3).toNat ≤ i.toNat → φ0 i = none) {i : Nat} (hi : i < ml.length) (hm : isAt (ml.getD i []) k a f = true) {Q : Ex → Tm → Hp → Prop} (hQ : Q .ret (mkT []) (rH (ml.set i [k, a, f, v]) ml.length (hd7 s))) : rSem p nt φ0 w0 ml s pL (pT v i) (pH ml s k a f) Q :=
  Sem.view (E0_ok p) h0 (mk0_for .lf _) (ms := [q 17, q 25, q 27, q 29, q 36]) (N := 20) (n := 20) [bs true, .idx i, .cut (row3 (ml.getD i [])), .cmp true, .idx i, .lay (fl (ml.set i [k, a, f, v]))] (q 100) (q 4) [(q 3, q 2)] []
    [(q 1, pS (q 2) ml.length s, pS (q 3) ml.length s), (q 3, .cells (fl (ml.set i [k, a, f, v])), .gh 1 (ml.set i [k, a, f, v]) 0)] (e := .ret)
    (ob := [.lay (fl ml) (0 + i * 4 + 3) [.int .u64 v] (fl (ml.set i [k, a, f, v])), .lt i ml.length, .av (.int .i64 (.ofNat i)) (.int .i64 (.ofNat i)), .cmp keyD (.agg (row3 (ml.getD i []))) (keyA k a f) true, .cut (fl ml) (0 + i * 4 + 0) 3 (row3 (ml.getD i [])), .lt i ml.length, .av (.int .i64 (.ofNat i)) (.int .i64 (.ofNat i)), .av (.bool (ltI (.ofNat i) (.ofNat ml.length))) (.bool true)]) (by kernel_rfl)
    ⟨by
      show lay _ _ _ = _
      have e : 0 + i * 4 + 3 = i * (layOf 0).length + 3 := by show _ = i * 4 + 3; omega
      rw [e]
      refine lay_row hi ?_
      obtain ⟨e0, e1, e2⟩ := isAt_iff.1 hm
      show some [AV.int .u8 (rowI (ml.getD i []) 0), AV.int .i64 (rowI (ml.getD i []) 1), AV.int .i64 (rowI (ml.getD i []) 2), AV.int .u64 v] = some [AV.int .u8 k, AV.int .i64 a, AV.int .i64 f, AV.int .u64 v]
      rw [e0, e1, e2], hi, rfl, by show eqV _ _ _ = _; rw [row3, eqV_row, hm], cut3 hi, hi, rfl, by show AV.bool _ = _; rw [ltI_nat, decide_eq_true hi], trivial⟩ (by kernel_rfl) (by kernel_rfl) (by kernel_rfl)
    ⟨relR (by kernel_rfl), relV rfl, trivial⟩ (by kernel_rfl) hQ
/-- how put's loop ends -/
def pQ (ml : List (List Int)) (s k a f v : Int) (e : Ex) (T : Tm) (H : Hp) : Prop :=
  (e = .normal ∧ T = mkT [(q 1, .ptr (q 1) 0), (q 3, .int .u64 v), (q 5, .ptr (q 3) 0)] ∧ H = pH ml s k a f ∧ putL ml k a f v = ml ++ [[k, a, f, v]]) ∨ (e = .ret ∧ H = rH (putL ml k a f v) (putL ml k a f v).length (hd7 s))
theorem p_loop (hlen : ml.length < 4000000000) (h0 : ∀ i : Pos, (q 3).toNat ≤ i.toNat → φ0 i = none) : rSem p nt φ0 w0 ml s (.loop pL) (pT v 0) (pH ml s k a f) (fun e T H => pQ ml s k a f v (blkX 0 e) T H) := by
  refine Sem.loop (fun n T H => ∃ i, n + i = ml.length ∧ T = pT v i ∧ H = pH ml s k a f ∧ ∀ j, j < i → isAt (ml.getD j []) k a f = false) ?_ ml.length _ _ ⟨0, rfl, rfl, rfl, fun j hj => absurd hj (Nat.not_lt_zero j)⟩
  rintro n T H ⟨i, hn, rfl, rfl, hno⟩
  by_cases hi : i < ml.length
  · cases hm : isAt (ml.getD i []) k a f with
    | true =>
      refine p_found h0 hi hm (.inr ⟨by simp, .inr ⟨rfl, ?_⟩⟩)
      rw [putL_found hno hi hm, List.length_set]
    | false =>
      refine p_next h0 (by omega) hi hm (.inl ⟨rfl, n - 1, by omega, i + 1, by omega, rfl, rfl, fun j hj => ?_⟩)
      by_cases e : j = i
      · subst e; exact hm
      · exact hno j (by omega)
  · exact p_end h0 hi (.inr ⟨by simp, .inl ⟨rfl, rfl, rfl, putL_none fun j hj => hno j (by omega)⟩⟩)
end
theorem put_some (p : PhT) {r0 : List Int} {m0 : List (List Int)} (hlen : m0.length < 3999999998) (s k a f v : Int) (hmay : rMayB k a f = true) :
    Tri Tryz.prog (Es p .lf).globals (q 69) [.ptr (q 1) 0, keyA k a f, .int .u64 v] ⟨mkT (hr1 (q 2) (r0 :: m0).length (r0 :: m0) (hd7 s)), q 3⟩ (.tup []) (rH (putL (r0 :: m0) k a f v) (putL (r0 :: m0) k a f v).length (hd7 s)) := by
  have hl : (r0 :: m0).length < 4000000000 := by simp; omega
  refine Sem.call (Es_ok p (s3_ok p)) (x := x68) (by kernel_rfl) fun nt φ0 w0 h0 => ?_
  refine Sem.seq (a := sub0 x68.body) (b := sub1 x68.body) (M := fun e T H => e = .normal ∧ T = mkT [(q 1, .ptr (q 1) 0), (q 3, .int .u64 v), (q 5, .ptr (q 3) 0)] ∧ H = pH (r0 :: m0) s k a f) ?_ ?_ ?_
  · exact Sem.view (E0_ok p) h0 (mk0_for .lf _) (ms := []) (N := 20) (n := 20) [] (q 100) (q 4) [(q 3, q 3)] [(q 1, .ptr (q 1) 0), (q 3, .int .u64 v), (q 5, .ptr (q 3) 0)] [(q 1, pS (q 2) (r0 :: m0).length s, pS (q 2) (r0 :: m0).length s), (q 2, .gh 1 (r0 :: m0) 0, .cells (fl (r0 :: m0))), (q 3, pK k a f, pK k a f)] (e := .normal) (ob := []) (by kernel_rfl) trivial (by kernel_rfl) (by kernel_rfl) (by kernel_rfl) ⟨relR (by kernel_rfl), relU, relR (by kernel_rfl), trivial⟩ (by kernel_rfl) ⟨rfl, rfl, rfl⟩
  · rintro T H ⟨_, rfl, rfl⟩
    refine Sem.seq (a := sub0 (sub1 x68.body)) (b := sub1 (sub1 x68.body)) (M := fun e T H => e = .normal ∧ T = mkT [(q 1, .ptr (q 1) 0), (q 3, .int .u64 v), (q 5, .ptr (q 3) 0)] ∧ H = pH (r0 :: m0) s k a f) ?_ ?_ ?_
    · exact Sem.view (Es_ok p (s3_ok p)) h0 (mk0_for .lf _) (ms := [q 9]) (N := 20) (n := 20) [bs true] (q 100) (q 4) [(q 3, q 3)] [(q 1, .ptr (q 1) 0), (q 3, .int .u64 v), (q 5, .ptr (q 3) 0)] (pl (r0 :: m0) s k a f) (e := .normal) (ob := [.av (.bool (rMayB k a f)) (.bool true)]) (by kernel_rfl) ⟨by show AV.bool _ = _; rw [hmay], trivial⟩ (by kernel_rfl) (by kernel_rfl) (by kernel_rfl) (pl_rel (r0 :: m0) s k a f) (by kernel_rfl) ⟨rfl, rfl, rfl⟩
    · rintro T H ⟨_, rfl, rfl⟩
      refine Sem.seq (a := sub0 (sub1 (sub1 x68.body))) (b := sub1 (sub1 (sub1 x68.body))) (M := pQ (r0 :: m0) s k a f v) ?_ ?_ ?_
      · refine Sem.seq (a := sub0 (sub0 (sub1 (sub1 x68.body)))) (b := sub1 (sub0 (sub1 (sub1 x68.body)))) (M := fun e T H => e = .normal ∧ T = pT v 0 ∧ H = pH (r0 :: m0) s k a f) ?_ ?_ ?_
        · exact Sem.view (E0_ok p) h0 (mk0_for .lf _) (ms := []) (N := 20) (n := 20) [] (q 100) (q 4) [(q 3, q 3)] [(q 1, .ptr (q 1) 0), (q 3, .int .u64 v), (q 5, .ptr (q 3) 0), (q 7, .int .i64 (.ofNat 0))] (pl (r0 :: m0) s k a f) (e := .normal) (ob := []) (by kernel_rfl) trivial (by kernel_rfl) (by kernel_rfl) (by kernel_rfl) (pl_rel (r0 :: m0) s k a f) (by kernel_rfl) ⟨rfl, rfl, rfl⟩
        · rintro T H ⟨_, rfl, rfl⟩
          exact Sem.block (id := 0) (b := .loop pL) (p_loop hl h0)
        · rintro e T H hne ⟨rfl, _⟩; exact absurd rfl hne
      · rintro T H (⟨_, rfl, rfl, hz⟩ | ⟨h, _⟩)
        · rw [hz]
          have e : ((r0 :: m0) ++ [[k, a, f, v]]).length = m0.length + 1 + (0 + 1) := by simp
          rw [e]
          exact Sem.view (E0_ok p) h0 (mk0_for .lf _) (ms := [q 47]) (N := 20) (n := 20) [.app (fl (r0 :: m0))] (q 100) (q 4) [(q 3, q 5)] [] [(q 1, pS (q 5) (m0.length + 1 + (0 + 1)) s, pS (q 3) (m0.length + 1 + (0 + 1)) s), (q 3, .cells (fl (r0 :: m0) ++ [.int .u8 k, .int .i64 a, .int .i64 f, .int .u64 v]), .gh 1 ((r0 :: m0) ++ [[k, a, f, v]]) 0)] (e := .normal)
            (ob := [.le (m0.length + 1 + (0 + 1)) 4611686018427387904, .le ((m0.length + 1 + (0 + 1)) * 32) 140737488355328, .cut (fl (r0 :: m0)) 0 ((m0.length + 1) * 4) (fl (r0 :: m0))]) (by kernel_rfl)
            ⟨by show _ ≤ _; omega, by show _ ≤ _; omega, by
              show cut _ _ _ = _
              have hfl : (fl (r0 :: m0)).length = (m0.length + 1) * 4 := flat_length (rowCells_length (layOf 0)) (r0 :: m0)
              rw [cut_of (by omega), ← hfl]
              simp, trivial⟩ (by kernel_rfl) (by kernel_rfl) (by kernel_rfl) ⟨relR (by kernel_rfl), relV (by rw [List.flatMap_append]; rfl), trivial⟩ (by kernel_rfl) ⟨fun id h => (by cases h), rfl, _, rfl, rfl⟩
        · cases h
      · rintro e T H hne (⟨h, _⟩ | ⟨rfl, rfl⟩)
        · exact absurd h hne
        · exact ⟨fun id h => (by cases h), rfl, _, rfl, rfl⟩
    · rintro e T H hne ⟨rfl, _⟩; exact absurd rfl hne
  · rintro e T H hne ⟨rfl, _⟩; exact absurd rfl hne
theorem put_not (p : PhT) {ml : List (List Int)} (s k a f v : Int) (hmay : rMayB k a f = false) :
    Tri Tryz.prog (Es p .lf).globals (q 69) [.ptr (q 1) 0, keyA k a f, .int .u64 v] ⟨mkT (hr1 (q 2) ml.length ml (hd7 s)), q 3⟩ (.tup []) (rH ml ml.length (hd7 s)) := by
  refine Sem.call (Es_ok p (s3_ok p)) (x := x68) (by kernel_rfl) fun nt φ0 w0 h0 => ?_
  exact Sem.view (Es_ok p (s3_ok p)) h0 (mk0_for .lf _) (ms := [q 9]) (N := 20) (n := 20) [bs false] (q 100) (q 4) [(q 3, q 2)] [] [(q 1, pS (q 2) ml.length s, pS (q 3) ml.length s), (q 3, .gh 1 ml 0, .gh 1 ml 0)] (e := .ret) (ob := [.av (.bool (rMayB k a f)) (.bool false)]) (by kernel_rfl) ⟨by show AV.bool _ = _; rw [hmay], trivial⟩ (by kernel_rfl) (by kernel_rfl) (by kernel_rfl) ⟨relR (by kernel_rfl), relG, trivial⟩ (by kernel_rfl) ⟨fun id h => (by cases h), rfl, _, rfl, rfl⟩
theorem put_none_may (p : PhT) (s k a f v : Int) (hmay : rMayB k a f = true) :
    Tri Tryz.prog (Es p .lf).globals (q 69) [.ptr (q 1) 0, keyA k a f, .int .u64 v] ⟨mkT (hr0 (hd7 s)), q 3⟩ (.tup []) (rH [[k, a, f, v]] 1 (hd7 s)) := by
  refine Sem.call (Es_ok p (s3_ok p)) (x := x68) (by kernel_rfl) fun nt φ0 w0 h0 => ?_
  exact Sem.view (Es_ok p (s3_ok p)) h0 (mk0_for .lf _) (ms := [q 9]) (N := 20) (n := 20) [bs true] (q 100) (q 4) [(q 3, q 5)] [] [(q 1, pS (q 5) 1 s, pS (q 3) 1 s), (q 3, .cells [.int .u8 k, .int .i64 a, .int .i64 f, .int .u64 v], .gh 1 [[k, a, f, v]] 0)] (e := .normal) (ob := [.av (.bool (rMayB k a f)) (.bool true)]) (by kernel_rfl) ⟨by show AV.bool _ = _; rw [hmay], trivial⟩ (by kernel_rfl) (by kernel_rfl) (by kernel_rfl) ⟨relR (by kernel_rfl), relV rfl, trivial⟩ (by kernel_rfl) ⟨fun id h => (by cases h), rfl, _, rfl, rfl⟩
theorem put_none_not (p : PhT) (s k a f v : Int) (hmay : rMayB k a f = false) :
    Tri Tryz.prog (Es p .lf).globals (q 69) [.ptr (q 1) 0, keyA k a f, .int .u64 v] ⟨mkT (hr0 (hd7 s)), q 3⟩ (.tup []) ⟨mkT (hr0 (hd7 s)), q 3⟩ := by
  refine Sem.call (Es_ok p (s3_ok p)) (x := x68) (by kernel_rfl) fun nt φ0 w0 h0 => ?_
  exact Sem.view (Es_ok p (s3_ok p)) h0 (mk0_for .lf _) (ms := [q 9]) (N := 20) (n := 20) [bs false] (q 100) (q 3) [] [] [(q 1, .cells (.nils :: hd7 s), .cells (.nils :: hd7 s))] (e := .ret) (ob := [.av (.bool (rMayB k a f)) (.bool false)]) (by kernel_rfl) ⟨by show AV.bool _ = _; rw [hmay], trivial⟩ (by kernel_rfl) (by kernel_rfl) (by kernel_rfl) ⟨relR (by kernel_rfl), trivial⟩ (by kernel_rfl) ⟨fun id h => (by cases h), rfl, _, rfl, rfl⟩
end Go.Proofs.YtipkbcnibhnjdabGreatDoor

/-
The other memory's Store.
-/
namespace Go.Proofs.YtipkbcnibhnjdabGreatDoor
open Go Go.Ev
set_option maxRecDepth 1000000

def pR (ml : List (List Int)) (k a f v : Int) : List (List Int) := match rMayB k a f with
  | true => putL ml k a f v
  | false => ml
theorem putL_length {k a f v : Int} : ∀ (m : List (List Int)), m.length ≤ (putL m k a f v).length ∧ (putL m k a f v).length ≤ m.length + 1
  | [] => ⟨by simp [putL], by simp [putL]⟩
  | r :: m => by
    have := putL_length (k := k) (a := a) (f := f) (v := v) m
    simp only [putL]
    cases isAt r k a f <;> simp <;> omega
theorem pR_length (m : List (List Int)) (k a f v : Int) : m.length ≤ (pR m k a f v).length ∧ (pR m k a f v).length ≤ m.length + 1 := by
  unfold pR
  cases rMayB k a f with
  | true => exact putL_length m
  | false => exact ⟨Nat.le_refl _, Nat.le_succ _⟩
noncomputable def cPut (b : Bool) : CSum := fun args H => match args with
  | [.ptr i 0, .agg [.int .u8 k, .int .i64 a, .int .i64 f], .int .u64 v] => match H.t.get i with
    | some (.cells [.nils, .int .i64 s, _, _, _, _, _, _, _]) => match b with
      | true => some (.tup [], ⟨(H.t.put i (some (.cells (.slc H.next 0 1 none 4 :: hd7 s)))).put H.next (some (.gh 1 [[k, a, f, v]] 0)), H.next.succ⟩, [.av (.bool (rMayB k a f)) (.bool true)])
      | false => some (.tup [], ⟨H.t.put i (some (.cells (.nils :: hd7 s))), H.next⟩, [.av (.bool (rMayB k a f)) (.bool false)])
    | some (.cells [.slc j 0 len none 4, .int .i64 s, _, _, _, _, _, _, _]) => match H.t.get j with
      | some (.gh 1 ml 0) => some (.tup [], ⟨((H.t.put i (some (.cells (.slc H.next 0 (pR ml k a f v).length none 4 :: hd7 s)))).put j none).put H.next (some (.gh 1 (pR ml k a f v) 0)), H.next.succ⟩, [.nat len ml.length, .lt 0 ml.length, .lt ml.length 3999999998])
      | _ => none
    | _ => none
  | _ => none
theorem cPut_ok (p : PhT) (b : Bool) : SumQ Tryz.prog (Es p .lf).globals (q 69) (realOf (cPut b)) := SumQ.of fun args H v H' h => by
  obtain ⟨obs, hc, ho⟩ := realOf_some h
  unfold cPut at hc
  split at hc
  · rename_i i k a f w
    split at hc
    · rename_i s x1 x2 x3 x4 x5 x6 x7 hi
      split at hc
      · cases hc
        obtain ⟨h1, _⟩ := ho
        have h1 : AV.bool _ = AV.bool _ := h1
        exact (put_none_may p s k a f w (by injection h1)).lift_ns rfl rfl rfl hi
      · cases hc
        obtain ⟨h1, _⟩ := ho
        have h1 : AV.bool _ = AV.bool _ := h1
        exact (put_none_not p s k a f w (by injection h1)).lift_nn rfl rfl rfl hi
    · rename_i j len s x1 x2 x3 x4 x5 x6 x7 hi
      split at hc
      · rename_i ml hj
        cases hc
        obtain ⟨h1, h2, h3, _⟩ := ho
        have h1 : len = ml.length := h1
        have h2 : 0 < ml.length := h2
        have h3 : ml.length < 3999999998 := h3
        subst h1
        cases hm : rMayB k a f with
        | false =>
          have e : pR ml k a f w = ml := by simp only [pR, hm]
          rw [e]
          exact (put_not p s k a f w hm).lift_ss rfl rfl rfl hi hj
        | true =>
          have e : pR ml k a f w = putL ml k a f w := by simp only [pR, hm]
          rw [e]
          cases ml with
          | nil => simp at h2
          | cons r0 m0 => exact (put_some p (by simp at h3; omega) s k a f w hm).lift_ss rfl rfl rfl hi hj
      · cases hc
    · cases hc
  · cases hc

theorem for_put {cs : Tr CSum} {s : Tr SumF} (h : ∀ f C, cs.get f = some C → s.get f = some (realOf C)) (f0 : Pos) (C0 : CSum) : ∀ f C, (cs.put f0 (some C0)).get f = some C → (s.put f0 (some (realOf C0))).get f = some (realOf C) := fun f C hf => by
  by_cases e : f0 = f
  · subst e
    rw [Tr.get_put_same] at hf ⊢
    cases hf
    rfl
  · rw [Tr.get_put_ne _ _ e] at hf ⊢
    exact h f C hf
theorem for_lf {s : Tr SumF} : ∀ f C, (Tr.lf : Tr CSum).get f = some C → s.get f = some (realOf C) := fun f C h => by rw [Tr.get_lf] at h; cases h
noncomputable def s4 (b : Bool) : Tr SumF := Tr.put (Tr.put .lf (q 68) (some (realOf cWord))) (q 69) (some (realOf (cPut b)))
noncomputable def c4 (b : Bool) : Tr CSum := Tr.put (Tr.put .lf (q 68) (some cWord)) (q 69) (some (cPut b))
theorem s4_ok (p : PhT) (b : Bool) : Tr.All (SumQ Tryz.prog (Es p .lf).globals) (s4 b) := all_put (all_put all_lf (cWord_ok p)) (cPut_ok p b)
theorem c4_for (p : PhT) (b : Bool) (t : Tr (List Pos)) : (⟨t, c4 b⟩ : Mk).For (Es p (s4 b)) := fun f C h => for_put (for_put (for_lf (s := .lf)) (q 68) cWord) (q 69) (cPut b) f C h

theorem rstore_some (p : PhT) {ml : List (List Int)} (h1 : 0 < ml.length) (h2 : ml.length < 3999999998) (s k a f v : Int) :
    Tri Tryz.prog (Es p .lf).globals (q 45) [.ptr (q 1) 0, keyA k a f, .int .u64 v] ⟨mkT (hr1 (q 2) ml.length ml (hd7 s)), q 3⟩ (.tup []) (rH (pR ml k a f v) (pR ml k a f v).length (hdA s 2 k a f (memGet ml k a f) (memGet (pR ml k a f v) k a f) false)) := by
  have hl := pR_length ml k a f v
  refine Sem.call (Es_ok p (s4_ok p false)) (x := x44) (by kernel_rfl) fun nt φ0 w0 h0 => ?_
  exact Sem.view (Es_ok p (s4_ok p false)) h0 (c4_for p false .lf) (ms := []) (N := 20) (n := 20) [] (q 100) (q 4) [(q 3, q 4)] []
    [(q 1, .cells (.slc (q 4) 0 (pR ml k a f v).length none 4 :: hdA s 2 k a f (memGet ml k a f) (memGet (pR ml k a f v) k a f) false), .cells (.slc (q 3) 0 (pR ml k a f v).length none 4 :: hdA s 2 k a f (memGet ml k a f) (memGet (pR ml k a f v) k a f) false)), (q 3, .gh 1 (pR ml k a f v) 0, .gh 1 (pR ml k a f v) 0)] (e := .normal)
    (ob := [.nat (pR ml k a f v).length (pR ml k a f v).length, .lt (pR ml k a f v).length 4000000000, .nat ml.length ml.length, .lt 0 ml.length, .lt ml.length 3999999998, .nat ml.length ml.length, .lt ml.length 4000000000]) (by kernel_rfl)
    ⟨rfl, by show _ < _; omega, rfl, h1, h2, rfl, by show _ < _; omega, trivial⟩ (by kernel_rfl) (by kernel_rfl) (by kernel_rfl) ⟨relR (by kernel_rfl), relG, trivial⟩ (by kernel_rfl) ⟨fun id h => (by cases h), rfl, _, rfl, rfl⟩
theorem rstore_may (p : PhT) (s k a f v : Int) (hmay : rMayB k a f = true) :
    Tri Tryz.prog (Es p .lf).globals (q 45) [.ptr (q 1) 0, keyA k a f, .int .u64 v] ⟨mkT (hr0 (hd7 s)), q 3⟩ (.tup []) (rH [[k, a, f, v]] 1 (hdA s 2 k a f 0 (memGet [[k, a, f, v]] k a f) false)) := by
  refine Sem.call (Es_ok p (s4_ok p true)) (x := x44) (by kernel_rfl) fun nt φ0 w0 h0 => ?_
  exact Sem.view (Es_ok p (s4_ok p true)) h0 (c4_for p true .lf) (ms := []) (N := 20) (n := 20) [] (q 100) (q 4) [(q 3, q 4)] []
    [(q 1, .cells (.slc (q 4) 0 1 none 4 :: hdA s 2 k a f 0 (memGet [[k, a, f, v]] k a f) false), .cells (.slc (q 3) 0 1 none 4 :: hdA s 2 k a f 0 (memGet [[k, a, f, v]] k a f) false)), (q 3, .gh 1 [[k, a, f, v]] 0, .gh 1 [[k, a, f, v]] 0)] (e := .normal)
    (ob := [.nat 1 1, .lt 1 4000000000, .av (.bool (rMayB k a f)) (.bool true)]) (by kernel_rfl)
    ⟨rfl, by show _ < _; omega, by show AV.bool _ = _; rw [hmay], trivial⟩ (by kernel_rfl) (by kernel_rfl) (by kernel_rfl) ⟨relR (by kernel_rfl), relG, trivial⟩ (by kernel_rfl) ⟨fun id h => (by cases h), rfl, _, rfl, rfl⟩
theorem rstore_not (p : PhT) (s k a f v : Int) (hmay : rMayB k a f = false) :
    Tri Tryz.prog (Es p .lf).globals (q 45) [.ptr (q 1) 0, keyA k a f, .int .u64 v] ⟨mkT (hr0 (hd7 s)), q 3⟩ (.tup []) ⟨mkT (hr0 (hdA s 2 k a f 0 0 false)), q 3⟩ := by
  refine Sem.call (Es_ok p (s4_ok p false)) (x := x44) (by kernel_rfl) fun nt φ0 w0 h0 => ?_
  exact Sem.view (Es_ok p (s4_ok p false)) h0 (c4_for p false .lf) (ms := []) (N := 20) (n := 20) [] (q 100) (q 3) [] []
    [(q 1, .cells (.nils :: hdA s 2 k a f 0 0 false), .cells (.nils :: hdA s 2 k a f 0 0 false))] (e := .normal)
    (ob := [.av (.bool (rMayB k a f)) (.bool false)]) (by kernel_rfl)
    ⟨by show AV.bool _ = _; rw [hmay], trivial⟩ (by kernel_rfl) (by kernel_rfl) (by kernel_rfl) ⟨relR (by kernel_rfl), trivial⟩ (by kernel_rfl) ⟨fun id h => (by cases h), rfl, _, rfl, rfl⟩
noncomputable def cRStore (b : Bool) : CSum := fun args H => match args with
  | [.ptr i 0, .agg [.int .u8 k, .int .i64 a, .int .i64 f], .int .u64 v] => match H.t.get i with
    | some (.cells [.nils, .int .i64 s, _, _, _, _, _, _, _]) => match b with
      | true => some (.tup [], ⟨(H.t.put i (some (.cells (.slc H.next 0 1 none 4 :: hdA s 2 k a f 0 (memGet [[k, a, f, v]] k a f) false)))).put H.next (some (.gh 1 [[k, a, f, v]] 0)), H.next.succ⟩, [.av (.bool (rMayB k a f)) (.bool true)])
      | false => some (.tup [], ⟨H.t.put i (some (.cells (.nils :: hdA s 2 k a f 0 0 false))), H.next⟩, [.av (.bool (rMayB k a f)) (.bool false)])
    | some (.cells [.slc j 0 len none 4, .int .i64 s, _, _, _, _, _, _, _]) => match H.t.get j with
      | some (.gh 1 ml 0) => some (.tup [], ⟨((H.t.put i (some (.cells (.slc H.next 0 (pR ml k a f v).length none 4 :: hdA s 2 k a f (memGet ml k a f) (memGet (pR ml k a f v) k a f) false)))).put j none).put H.next (some (.gh 1 (pR ml k a f v) 0)), H.next.succ⟩, [.nat len ml.length, .lt 0 ml.length, .lt ml.length 3999999998])
      | _ => none
    | _ => none
  | _ => none
theorem cRStore_ok (p : PhT) (b : Bool) : SumQ Tryz.prog (Es p .lf).globals (q 45) (realOf (cRStore b)) := SumQ.of fun args H v H' h => by
  obtain ⟨obs, hc, ho⟩ := realOf_some h
  unfold cRStore at hc
  split at hc
  · rename_i i k a f w
    split at hc
    · rename_i s x1 x2 x3 x4 x5 x6 x7 hi
      split at hc
      · cases hc
        obtain ⟨h1, _⟩ := ho
        have h1 : AV.bool _ = AV.bool _ := h1
        exact (rstore_may p s k a f w (by injection h1)).lift_ns rfl rfl rfl hi
      · cases hc
        obtain ⟨h1, _⟩ := ho
        have h1 : AV.bool _ = AV.bool _ := h1
        exact (rstore_not p s k a f w (by injection h1)).lift_nn rfl rfl rfl hi
    · rename_i j len s x1 x2 x3 x4 x5 x6 x7 hi
      split at hc
      · rename_i ml hj
        cases hc
        obtain ⟨h1, h2, h3, _⟩ := ho
        have h1 : len = ml.length := h1
        have h2 : 0 < ml.length := h2
        have h3 : ml.length < 3999999998 := h3
        subst h1
        exact (rstore_some p h2 h3 s k a f w).lift_ss rfl rfl rfl hi hj
      · cases hc
    · cases hc
  · cases hc
end Go.Proofs.YtipkbcnibhnjdabGreatDoor
