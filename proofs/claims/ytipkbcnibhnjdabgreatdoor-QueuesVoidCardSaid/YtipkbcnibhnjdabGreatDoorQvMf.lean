/-
A pair of memories begins with words in it.
-/
import Derived.Test.YtipkbcnibhnjdabGreatDoorQvMde
set_option linter.unusedVariables false
set_option linter.unusedSimpArgs false
namespace Go.Proofs.YtipkbcnibhnjdabGreatDoor
open Go Go.Ev
set_option maxRecDepth 1000000

noncomputable def s5 (b : Bool) : Tr SumF := Tr.put (Tr.put .lf (q 44) (some fStore)) (q 45) (some (realOf (cRStore b)))
noncomputable def c5 (b : Bool) : Tr CSum := Tr.put .lf (q 45) (some (cRStore b))
theorem s5_ok (p : PhT) (b : Bool) : Tr.All (SumQ Tryz.prog (Es p .lf).globals) (s5 b) := all_put (all_put all_lf (fStore_ok p)) (cRStore_ok p b)
theorem c5_for (p : PhT) (b : Bool) (t : Tr (List Pos)) : (⟨t, c5 b⟩ : Mk).For (Es p (s5 b)) := fun f C h => for_put (for_lf (s := Tr.put .lf (q 44) (some fStore))) (q 45) (cRStore b) f C h

/-- the words behind so many stores -/
def bM (rows : List (List Int)) : Nat → List (List Int)
  | 0 => []
  | n + 1 => putM (bM rows n) (rowI (rows.getD n []) 0) (rowI (rows.getD n []) 1) (rowI (rows.getD n []) 2) (rowI (rows.getD n []) 3)
theorem allRel_app {ρ : Pos → Pos} : ∀ {l m : List (Pos × AObj × AObj)}, allRel ρ l → allRel ρ m → allRel ρ (l ++ m)
  | [], _, _, h => h
  | _ :: _, _, ⟨h1, h2⟩, h => ⟨h1, allRel_app h2 h⟩
theorem relM0 {ρ : Pos → Pos} : ∀ φ s n o, OR φ s n (.mp [] 0) o → OR (fun j => φ (ρ j)) s n (.gh 0 [] 0) o := fun φ s n o ho => ⟨.mp [] 0, ⟨[], rfl, trivial, fun r hr => (by cases hr), List.nodup_nil, fun k a f => rfl⟩, ho⟩
theorem relA7 {ρ : Pos → Pos} {a b : AV} {t t' : Int} {x1 x2 x3 x4 x5 x6 x7 : AV} (ha : ren ρ b = a) (ht : t = t') : ∀ φ s n c, OR φ s n (.cells [a, .int .i64 t, x1, x2, x3, x4, x5, x6, x7]) c → OR (fun j => φ (ρ j)) s n (.cells (b :: .int .i64 t' :: any7)) c := fun φ s n c ho => by
  subst ht
  exact OR_any7 (fun u hu => VR.ren (by rw [ha]; exact hu)) ho
theorem relPA {ρ : Pos → Pos} {a b y : AV} (ha : ren ρ b = a) : ∀ φ s n c, OR φ s n (.cells [a, y]) c → OR (fun j => φ (ρ j)) s n (.cells [b, .any]) c := fun φ s n c ho => by
  obtain ⟨c', t, h1, h2, h3, h4⟩ := ho
  refine ⟨c', t, h1, h2, h3, fun x w hx => ?_⟩
  match x, hx with
  | 0, hx =>
    simp only [at?, Option.some.injEq] at hx
    subst hx
    obtain ⟨u, hu, g⟩ := h4 0 _ rfl
    exact ⟨u, hu, VR.ren (by rw [ha]; exact g)⟩
  | 1, hx => simp only [at?, Option.some.injEq] at hx; subst hx; obtain ⟨u, hu, _⟩ := h4 1 _ rfl; exact ⟨u, hu, trivial⟩
  | x + 2, hx => simp [at?] at hx

/-- what all states of Begin's loop have; what the other memory has -/
def bl (rows m : List (List Int)) (i : Nat) : List (Pos × AObj) := [(q 1, .ro rows 0), (q 2, .cells [.nilp, .nilp]), (q 3, .cells [.ptr (q 4) 0, .ptr (q 6) 0]), (q 4, .cells (.map (q 5) :: hd7 (.ofNat i))), (q 5, .gh 0 m 0)]
def br : Option (List (List Int)) → Int → List (Pos × AObj)
  | none, s => [(q 6, .cells (.nils :: hd7 s))]
  | some ml, s => [(q 6, .cells (.slc (q 7) 0 ml.length none 4 :: hd7 s)), (q 7, .gh 1 ml 0)]
noncomputable def bH (rows m : List (List Int)) (i : Nat) (sh : Option (List (List Int))) (s : Int) : Hp := ⟨mkT (bl rows m i ++ br sh s), q 8⟩
noncomputable def bT (n i : Nat) : Tm := mkT [(q 1, .slc (q 1) 0 n none 4), (q 3, .ptr (q 2) 0), (q 4, .ptr (q 3) 0), (q 5, .int .i64 (.ofNat i))]
noncomputable def bH0 (rows : List (List Int)) : Hp := ⟨mkT [(q 1, .ro rows 0)], q 2⟩
abbrev bSem (p : PhT) (nt : Nat) (φ0 : Emb) (w0 : World) (rows : List (List Int)) (x : XC) (T : Tm) (H : Hp) (Q : Ex → Tm → Hp → Prop) : Prop := Go.Ev.Sem Tryz.prog names (Es p .lf).globals nt φ0 (bH0 rows) w0 x T H Q
def bL : XC := sub0 (sub0 (sub1 (sub0 (sub1 (sub1 x5.body)))))
def bOK (sh : Option (List (List Int))) (i : Nat) : Prop := match sh with
  | none => True
  | some ml => 0 < ml.length ∧ ml.length ≤ i
section
variable {p : PhT} {nt : Nat} {φ0 : Emb} {w0 : World} {rows : List (List Int)} {m : List (List Int)} {s : Int}
def same5 (rows m : List (List Int)) (i : Nat) (was is k a f : Int) (i' : Nat) (m' : List (List Int)) : List (Pos × AObj × AObj) := [(q 1, .ro rows 0, .ro rows 0), (q 2, .cells [.nilp, .nilp], .cells [.nilp, .nilp]), (q 3, .cells [.ptr (q 4) 0, .ptr (q 6) 0], .cells [.ptr (q 4) 0, .ptr (q 6) 0]), (q 4, .cells (.map (q 5) :: hdA (.ofNat i) 2 k a f was is false), .cells (.map (q 5) :: hd7 (.ofNat i'))), (q 5, .gh 0 m' 0, .gh 0 m' 0)]
def nextT (n i : Nat) : List (Pos × AV) := [(q 1, .slc (q 1) 0 n none 4), (q 3, .ptr (q 2) 0), (q 4, .ptr (q 3) 0), (q 5, .int .i64 (.ofNat (i + 1)))]
def bSc (i : Nat) : List Sc := [bs true, bs true, .idx i, .row i 0, .val (.int .i64 (.ofNat (i + 1)))]
def bMs : List Pos := [q 14, q 17, q 23, q 24, q 19]
theorem b_some (h0 : ∀ i : Pos, (q 2).toNat ≤ i.toNat → φ0 i = none) {i : Nat} (hi : i < rows.length) (h300 : i < 300) {ml : List (List Int)} (h1 : 0 < ml.length) (h2 : ml.length ≤ i) (k a f v : Int) (ek : k = rowI (rows.getD i []) 0) (ea : a = rowI (rows.getD i []) 1) (ef : f = rowI (rows.getD i []) 2) (ev : v = rowI (rows.getD i []) 3) {Q : Ex → Tm → Hp → Prop}
    (hQ : Q .normal (bT rows.length (i + 1)) (bH rows (putM m k a f v) (i + 1) (some (pR ml k a f v)) (wrapF .i64 (s + 1)))) : bSem p nt φ0 w0 rows bL (bT rows.length i) (bH rows m i (some ml) s) Q := by
  subst ek ea ef ev
  exact Sem.view (Es_ok p (s5_ok p false)) h0 (c5_for p false .lf) (ms := bMs) (N := 20) (n := 20) (bSc i) (q 100) (q 8) [(q 2, q 2), (q 3, q 3), (q 4, q 4), (q 5, q 5), (q 6, q 6), (q 7, q 10)] (nextT rows.length i)
    (same5 rows m i (memGet m (rowI (rows.getD i []) 0) (rowI (rows.getD i []) 1) (rowI (rows.getD i []) 2)) (isM m (rowI (rows.getD i []) 0) (rowI (rows.getD i []) 1) (rowI (rows.getD i []) 2) (rowI (rows.getD i []) 3)) (rowI (rows.getD i []) 0) (rowI (rows.getD i []) 1) (rowI (rows.getD i []) 2) (i + 1) (putM m (rowI (rows.getD i []) 0) (rowI (rows.getD i []) 1) (rowI (rows.getD i []) 2) (rowI (rows.getD i []) 3)) ++
      ([(q 6, .cells (.slc (q 10) 0 (pR ml (rowI (rows.getD i []) 0) (rowI (rows.getD i []) 1) (rowI (rows.getD i []) 2) (rowI (rows.getD i []) 3)).length none 4 :: hdA s 2 (rowI (rows.getD i []) 0) (rowI (rows.getD i []) 1) (rowI (rows.getD i []) 2) (memGet ml (rowI (rows.getD i []) 0) (rowI (rows.getD i []) 1) (rowI (rows.getD i []) 2)) (memGet (pR ml (rowI (rows.getD i []) 0) (rowI (rows.getD i []) 1) (rowI (rows.getD i []) 2) (rowI (rows.getD i []) 3)) (rowI (rows.getD i []) 0) (rowI (rows.getD i []) 1) (rowI (rows.getD i []) 2)) false), .cells (.slc (q 7) 0 (pR ml (rowI (rows.getD i []) 0) (rowI (rows.getD i []) 1) (rowI (rows.getD i []) 2) (rowI (rows.getD i []) 3)).length none 4 :: hd7 (wrapF .i64 (s + 1)))), (q 7, .gh 1 (pR ml (rowI (rows.getD i []) 0) (rowI (rows.getD i []) 1) (rowI (rows.getD i []) 2) (rowI (rows.getD i []) 3)) 0, .gh 1 (pR ml (rowI (rows.getD i []) 0) (rowI (rows.getD i []) 1) (rowI (rows.getD i []) 2) (rowI (rows.getD i []) 3)) 0)] : List (Pos × AObj × AObj))) (e := .normal)
    (ob := [.av (.int .i64 (wrapF .i64 (.ofNat i + 1))) (.int .i64 (.ofNat (i + 1))), .nat ml.length ml.length, .lt 0 ml.length, .lt ml.length 3999999998, .lt i rows.length, .nat (0 + i * 4) (i * 4 + 0), .lt i rows.length, .av (.int .i64 (.ofNat i)) (.int .i64 (.ofNat i)), .av (.bool (ltI (.ofNat i) 300)) (.bool true), .av (.bool (ltI (.ofNat i) (.ofNat rows.length))) (.bool true)]) (by kernel_rfl)
    ⟨by show AV.int _ _ = AV.int _ _; rw [wrap_succ (by omega)], rfl, h1, by show _ < _; omega, hi, by show _ = _; omega, hi, rfl, by show AV.bool (ltI (.ofNat i) (.ofNat 300)) = _; rw [ltI_nat, decide_eq_true h300], by show AV.bool _ = _; rw [ltI_nat, decide_eq_true hi], trivial⟩ (by kernel_rfl) (by kernel_rfl) (by kernel_rfl)
    (allRel_app (l := same5 ..) ⟨relO, relR (by kernel_rfl), relR (by kernel_rfl), relA7 (by kernel_rfl) (wrap_succ (by omega)), relG, trivial⟩ ⟨relA7 (by kernel_rfl) rfl, relG, trivial⟩) (by kernel_rfl) hQ
theorem b_may (h0 : ∀ i : Pos, (q 2).toNat ≤ i.toNat → φ0 i = none) {i : Nat} (hi : i < rows.length) (h300 : i < 300) (k a f v : Int) (ek : k = rowI (rows.getD i []) 0) (ea : a = rowI (rows.getD i []) 1) (ef : f = rowI (rows.getD i []) 2) (ev : v = rowI (rows.getD i []) 3) (hmay : rMayB k a f = true) {Q : Ex → Tm → Hp → Prop}
    (hQ : Q .normal (bT rows.length (i + 1)) (bH rows (putM m k a f v) (i + 1) (some [[k, a, f, v]]) (wrapF .i64 (s + 1)))) : bSem p nt φ0 w0 rows bL (bT rows.length i) (bH rows m i none s) Q := by
  subst ek ea ef ev
  exact Sem.view (Es_ok p (s5_ok p true)) h0 (c5_for p true .lf) (ms := bMs) (N := 20) (n := 20) (bSc i) (q 100) (q 8) [(q 2, q 2), (q 3, q 3), (q 4, q 4), (q 5, q 5), (q 6, q 6), (q 7, q 10)] (nextT rows.length i)
    (same5 rows m i (memGet m (rowI (rows.getD i []) 0) (rowI (rows.getD i []) 1) (rowI (rows.getD i []) 2)) (isM m (rowI (rows.getD i []) 0) (rowI (rows.getD i []) 1) (rowI (rows.getD i []) 2) (rowI (rows.getD i []) 3)) (rowI (rows.getD i []) 0) (rowI (rows.getD i []) 1) (rowI (rows.getD i []) 2) (i + 1) (putM m (rowI (rows.getD i []) 0) (rowI (rows.getD i []) 1) (rowI (rows.getD i []) 2) (rowI (rows.getD i []) 3)) ++
      ([(q 6, .cells (.slc (q 10) 0 1 none 4 :: hdA s 2 (rowI (rows.getD i []) 0) (rowI (rows.getD i []) 1) (rowI (rows.getD i []) 2) 0 (memGet [[(rowI (rows.getD i []) 0), (rowI (rows.getD i []) 1), (rowI (rows.getD i []) 2), (rowI (rows.getD i []) 3)]] (rowI (rows.getD i []) 0) (rowI (rows.getD i []) 1) (rowI (rows.getD i []) 2)) false), .cells (.slc (q 7) 0 1 none 4 :: hd7 (wrapF .i64 (s + 1)))), (q 7, .gh 1 [[(rowI (rows.getD i []) 0), (rowI (rows.getD i []) 1), (rowI (rows.getD i []) 2), (rowI (rows.getD i []) 3)]] 0, .gh 1 [[(rowI (rows.getD i []) 0), (rowI (rows.getD i []) 1), (rowI (rows.getD i []) 2), (rowI (rows.getD i []) 3)]] 0)] : List (Pos × AObj × AObj))) (e := .normal)
    (ob := [.av (.int .i64 (wrapF .i64 (.ofNat i + 1))) (.int .i64 (.ofNat (i + 1))), .av (.bool (rMayB (rowI (rows.getD i []) 0) (rowI (rows.getD i []) 1) (rowI (rows.getD i []) 2))) (.bool true), .lt i rows.length, .nat (0 + i * 4) (i * 4 + 0), .lt i rows.length, .av (.int .i64 (.ofNat i)) (.int .i64 (.ofNat i)), .av (.bool (ltI (.ofNat i) 300)) (.bool true), .av (.bool (ltI (.ofNat i) (.ofNat rows.length))) (.bool true)]) (by kernel_rfl)
    ⟨by show AV.int _ _ = AV.int _ _; rw [wrap_succ (by omega)], by show AV.bool _ = _; rw [hmay], hi, by show _ = _; omega, hi, rfl, by show AV.bool (ltI (.ofNat i) (.ofNat 300)) = _; rw [ltI_nat, decide_eq_true h300], by show AV.bool _ = _; rw [ltI_nat, decide_eq_true hi], trivial⟩ (by kernel_rfl) (by kernel_rfl) (by kernel_rfl)
    (allRel_app (l := same5 ..) ⟨relO, relR (by kernel_rfl), relR (by kernel_rfl), relA7 (by kernel_rfl) (wrap_succ (by omega)), relG, trivial⟩ ⟨relA7 (by kernel_rfl) rfl, relG, trivial⟩) (by kernel_rfl) hQ
theorem b_not (h0 : ∀ i : Pos, (q 2).toNat ≤ i.toNat → φ0 i = none) {i : Nat} (hi : i < rows.length) (h300 : i < 300) (k a f v : Int) (ek : k = rowI (rows.getD i []) 0) (ea : a = rowI (rows.getD i []) 1) (ef : f = rowI (rows.getD i []) 2) (ev : v = rowI (rows.getD i []) 3) (hmay : rMayB k a f = false) {Q : Ex → Tm → Hp → Prop}
    (hQ : Q .normal (bT rows.length (i + 1)) (bH rows (putM m k a f v) (i + 1) none (wrapF .i64 (s + 1)))) : bSem p nt φ0 w0 rows bL (bT rows.length i) (bH rows m i none s) Q := by
  subst ek ea ef ev
  exact Sem.view (Es_ok p (s5_ok p false)) h0 (c5_for p false .lf) (ms := bMs) (N := 20) (n := 20) (bSc i) (q 100) (q 8) [(q 2, q 2), (q 3, q 3), (q 4, q 4), (q 5, q 5), (q 6, q 6)] (nextT rows.length i)
    (same5 rows m i (memGet m (rowI (rows.getD i []) 0) (rowI (rows.getD i []) 1) (rowI (rows.getD i []) 2)) (isM m (rowI (rows.getD i []) 0) (rowI (rows.getD i []) 1) (rowI (rows.getD i []) 2) (rowI (rows.getD i []) 3)) (rowI (rows.getD i []) 0) (rowI (rows.getD i []) 1) (rowI (rows.getD i []) 2) (i + 1) (putM m (rowI (rows.getD i []) 0) (rowI (rows.getD i []) 1) (rowI (rows.getD i []) 2) (rowI (rows.getD i []) 3)) ++
      ([(q 6, .cells (.nils :: hdA s 2 (rowI (rows.getD i []) 0) (rowI (rows.getD i []) 1) (rowI (rows.getD i []) 2) 0 0 false), .cells (.nils :: hd7 (wrapF .i64 (s + 1))))] : List (Pos × AObj × AObj))) (e := .normal)
    (ob := [.av (.int .i64 (wrapF .i64 (.ofNat i + 1))) (.int .i64 (.ofNat (i + 1))), .av (.bool (rMayB (rowI (rows.getD i []) 0) (rowI (rows.getD i []) 1) (rowI (rows.getD i []) 2))) (.bool false), .lt i rows.length, .nat (0 + i * 4) (i * 4 + 0), .lt i rows.length, .av (.int .i64 (.ofNat i)) (.int .i64 (.ofNat i)), .av (.bool (ltI (.ofNat i) 300)) (.bool true), .av (.bool (ltI (.ofNat i) (.ofNat rows.length))) (.bool true)]) (by kernel_rfl)
    ⟨by show AV.int _ _ = AV.int _ _; rw [wrap_succ (by omega)], by show AV.bool _ = _; rw [hmay], hi, by show _ = _; omega, hi, rfl, by show AV.bool (ltI (.ofNat i) (.ofNat 300)) = _; rw [ltI_nat, decide_eq_true h300], by show AV.bool _ = _; rw [ltI_nat, decide_eq_true hi], trivial⟩ (by kernel_rfl) (by kernel_rfl) (by kernel_rfl)
    (allRel_app (l := same5 ..) ⟨relO, relR (by kernel_rfl), relR (by kernel_rfl), relA7 (by kernel_rfl) (wrap_succ (by omega)), relG, trivial⟩ ⟨relA7 (by kernel_rfl) rfl, trivial⟩) (by kernel_rfl) hQ
/-- what is left behind the loop -/
def bE (rows m : List (List Int)) (i : Nat) : List (Pos × AObj × AObj) := [(q 1, .ro rows 0, .ro rows 0), (q 2, .cells [.nilp, .nilp], .cells [.nilp, .nilp]), (q 3, .cells [.ptr (q 4) 0, .ptr (q 6) 0], .cells [.ptr (q 4) 0, .ptr (q 6) 0]), (q 4, .cells (.map (q 5) :: hd7 (.ofNat i)), .cells (.map (q 5) :: hd7 (.ofNat i))), (q 5, .gh 0 m 0, .gh 0 m 0)]
noncomputable def bHe (rows m : List (List Int)) (i : Nat) : Hp := ⟨mkT ((bE rows m i).map fun x => (x.1, x.2.2)), q 7⟩
noncomputable def bTe : Tm := mkT [(q 3, .ptr (q 2) 0), (q 4, .ptr (q 3) 0)]
theorem b_end (h0 : ∀ i : Pos, (q 2).toNat ≤ i.toNat → φ0 i = none) {i : Nat} (hi : ¬ i < rows.length) (sh : Option (List (List Int))) {Q : Ex → Tm → Hp → Prop} (hQ : Q (.exit 0) bTe (bHe rows m i)) : bSem p nt φ0 w0 rows bL (bT rows.length i) (bH rows m i sh s) Q := by
  cases sh with
  | none =>
    exact Sem.view (E0_ok p) h0 (mk0_for .lf _) (ms := bMs) (N := 20) (n := 20) [bs false, bs false] (q 100) (q 7) [(q 2, q 2), (q 3, q 3), (q 4, q 4), (q 5, q 5), (q 6, q 6)] [(q 3, .ptr (q 2) 0), (q 4, .ptr (q 3) 0)] (bE rows m i) (e := .exit 0)
      (ob := [.av (.bool false) (.bool false), .av (.bool (ltI (.ofNat i) (.ofNat rows.length))) (.bool false)]) (by kernel_rfl) ⟨rfl, by show AV.bool _ = _; rw [ltI_nat, decide_eq_false hi], trivial⟩ (by kernel_rfl) (by kernel_rfl) (by kernel_rfl)
      ⟨relO, relR (by kernel_rfl), relR (by kernel_rfl), relR (by kernel_rfl), relG, trivial⟩ (by kernel_rfl) hQ
  | some ml =>
    exact Sem.view (E0_ok p) h0 (mk0_for .lf _) (ms := bMs) (N := 20) (n := 20) [bs false, bs false] (q 100) (q 7) [(q 2, q 2), (q 3, q 3), (q 4, q 4), (q 5, q 5), (q 6, q 6)] [(q 3, .ptr (q 2) 0), (q 4, .ptr (q 3) 0)] (bE rows m i) (e := .exit 0)
      (ob := [.av (.bool false) (.bool false), .av (.bool (ltI (.ofNat i) (.ofNat rows.length))) (.bool false)]) (by kernel_rfl) ⟨rfl, by show AV.bool _ = _; rw [ltI_nat, decide_eq_false hi], trivial⟩ (by kernel_rfl) (by kernel_rfl) (by kernel_rfl)
      ⟨relO, relR (by kernel_rfl), relR (by kernel_rfl), relR (by kernel_rfl), relG, trivial⟩ (by kernel_rfl) hQ
theorem b_loop (hlen : rows.length ≤ 300) (h0 : ∀ i : Pos, (q 2).toNat ≤ i.toNat → φ0 i = none) (s0 : Int) : bSem p nt φ0 w0 rows (.loop bL) (bT rows.length 0) (bH rows [] 0 none s0) (fun e T H => (blkX 0 e = .normal ∧ T = bTe ∧ H = bHe rows (bM rows rows.length) rows.length)) := by
  refine Sem.loop (fun n T H => ∃ i sh s, n + i = rows.length ∧ T = bT rows.length i ∧ H = bH rows (bM rows i) i sh s ∧ bOK sh i) ?_ rows.length _ _ ⟨0, none, s0, rfl, rfl, rfl, trivial⟩
  rintro n T H ⟨i, sh, s, hn, rfl, rfl, hsh⟩
  by_cases hi : i < rows.length
  · have h300 : i < 300 := by omega
    cases sh with
    | some ml =>
      have hp := pR_length ml (rowI (rows.getD i []) 0) (rowI (rows.getD i []) 1) (rowI (rows.getD i []) 2) (rowI (rows.getD i []) 3)
      refine b_some h0 hi h300 hsh.1 hsh.2 _ _ _ _ rfl rfl rfl rfl (.inl ⟨rfl, n - 1, by omega, i + 1, _, _, by omega, rfl, rfl, ?_⟩)
      have h1 := hsh.1
      have h2 := hsh.2
      exact ⟨by omega, by omega⟩
    | none =>
      cases hm : rMayB (rowI (rows.getD i []) 0) (rowI (rows.getD i []) 1) (rowI (rows.getD i []) 2) with
      | true => exact b_may h0 hi h300 _ _ _ _ rfl rfl rfl rfl hm (.inl ⟨rfl, n - 1, by omega, i + 1, _, _, by omega, rfl, rfl, ⟨Nat.succ_pos _, by show 1 ≤ i + 1; omega⟩⟩)
      | false => exact b_not h0 hi h300 _ _ _ _ rfl rfl rfl rfl hm (.inl ⟨rfl, n - 1, by omega, i + 1, _, _, by omega, rfl, rfl, trivial⟩)
  · have e : i = rows.length := by omega
    subst e
    exact b_end h0 hi sh (.inr ⟨by simp, rfl, rfl, rfl⟩)
end
def bV : AV := .agg [.ptr (q 3) 0, .any]
def bR (rows m : List (List Int)) (n : Nat) : List (Pos × AObj) := [(q 1, .ro rows 0), (q 2, .cells [.ptr (q 3) 0, .any]), (q 3, .cells (.map (q 4) :: hd7 (.ofNat n))), (q 4, .gh 0 m 0)]
section
variable {p : PhT} {nt : Nat} {φ0 : Emb} {w0 : World} {rows : List (List Int)}
theorem g1 (h0 : ∀ i : Pos, (q 2).toNat ≤ i.toNat → φ0 i = none) : bSem p nt φ0 w0 rows (sub0 x5.body) (argsT [.slc (q 1) 0 rows.length none 4] .h .lf) (bH0 rows) (fun e T H => e = .normal ∧ T = mkT [(q 1, .slc (q 1) 0 rows.length none 4), (q 3, .ptr (q 2) 0)] ∧ H = ⟨mkT [(q 1, .ro rows 0), (q 2, .cells [.nilp, .nilp])], q 3⟩) :=
  Sem.view (E0_ok p) h0 (mk0_for .lf _) (ms := []) (N := 20) (n := 20) [] (q 100) (q 3) [(q 2, q 2)] [(q 1, .slc (q 1) 0 rows.length none 4), (q 3, .ptr (q 2) 0)] [(q 1, .ro rows 0, .ro rows 0), (q 2, .cells [.nilp, .nilp], .cells [.nilp, .nilp])] (e := .normal) (ob := []) (by kernel_rfl) trivial (by kernel_rfl) (by kernel_rfl) (by kernel_rfl) ⟨relO, relR (by kernel_rfl), trivial⟩ (by kernel_rfl) ⟨rfl, rfl, rfl⟩
theorem g2 (h0 : ∀ i : Pos, (q 2).toNat ≤ i.toNat → φ0 i = none) : bSem p nt φ0 w0 rows (sub0 (sub1 x5.body)) (mkT [(q 1, .slc (q 1) 0 rows.length none 4), (q 3, .ptr (q 2) 0)]) ⟨mkT [(q 1, .ro rows 0), (q 2, .cells [.nilp, .nilp])], q 3⟩ (fun e T H => e = .normal ∧ T = mkT [(q 1, .slc (q 1) 0 rows.length none 4), (q 3, .ptr (q 2) 0), (q 4, .ptr (q 3) 0)] ∧ H = bH rows [] 0 none 0) :=
  Sem.view (E0_ok p) h0 (mk0_for .lf _) (ms := []) (N := 20) (n := 20) [] (q 100) (q 8) [(q 2, q 2), (q 3, q 6), (q 4, q 4), (q 5, q 3), (q 6, q 5)] [(q 1, .slc (q 1) 0 rows.length none 4), (q 3, .ptr (q 2) 0), (q 4, .ptr (q 3) 0)]
        [(q 1, .ro rows 0, .ro rows 0), (q 2, .cells [.nilp, .nilp], .cells [.nilp, .nilp]), (q 3, .cells [.ptr (q 4) 0, .ptr (q 5) 0], .cells [.ptr (q 4) 0, .ptr (q 6) 0]), (q 4, .cells [.map (q 3), .int .i64 0, .int .u8 0, .int .u8 0, .int .i64 0, .int .i64 0, .int .u64 0, .int .u64 0, .bool false], .cells (.map (q 5) :: hd7 (.ofNat 0))), (q 5, .mp [] 0, .gh 0 [] 0), (q 6, .cells [.nils, .int .i64 0, .int .u8 0, .int .u8 0, .int .i64 0, .int .i64 0, .int .u64 0, .int .u64 0, .bool false], .cells (.nils :: hd7 0))]
        (e := .normal) (ob := []) (by kernel_rfl) trivial (by kernel_rfl) (by kernel_rfl) (by kernel_rfl) ⟨relO, relR (by kernel_rfl), relR (by kernel_rfl), relA7 (by kernel_rfl) rfl, relM0, relA7 (by kernel_rfl) rfl, trivial⟩ (by kernel_rfl) ⟨rfl, rfl, rfl⟩
theorem g3 (h0 : ∀ i : Pos, (q 2).toNat ≤ i.toNat → φ0 i = none) : bSem p nt φ0 w0 rows (sub0 (sub0 (sub1 (sub1 x5.body)))) (mkT [(q 1, .slc (q 1) 0 rows.length none 4), (q 3, .ptr (q 2) 0), (q 4, .ptr (q 3) 0)]) (bH rows [] 0 none 0) (fun e T H => e = .normal ∧ T = bT rows.length 0 ∧ H = bH rows [] 0 none 0) :=
  Sem.view (E0_ok p) h0 (mk0_for .lf _) (ms := []) (N := 20) (n := 20) [] (q 100) (q 8) [(q 2, q 2), (q 3, q 3), (q 4, q 4), (q 5, q 5), (q 6, q 6)] [(q 1, .slc (q 1) 0 rows.length none 4), (q 3, .ptr (q 2) 0), (q 4, .ptr (q 3) 0), (q 5, .int .i64 (.ofNat 0))]
            [(q 1, .ro rows 0, .ro rows 0), (q 2, .cells [.nilp, .nilp], .cells [.nilp, .nilp]), (q 3, .cells [.ptr (q 4) 0, .ptr (q 6) 0], .cells [.ptr (q 4) 0, .ptr (q 6) 0]), (q 4, .cells (.map (q 5) :: hd7 (.ofNat 0)), .cells (.map (q 5) :: hd7 (.ofNat 0))), (q 5, .gh 0 [] 0, .gh 0 [] 0), (q 6, .cells (.nils :: hd7 0), .cells (.nils :: hd7 0))]
            (e := .normal) (ob := []) (by kernel_rfl) trivial (by kernel_rfl) (by kernel_rfl) (by kernel_rfl) ⟨relO, relR (by kernel_rfl), relR (by kernel_rfl), relR (by kernel_rfl), relG, relR (by kernel_rfl), trivial⟩ (by kernel_rfl) ⟨rfl, rfl, rfl⟩
theorem g4 (h0 : ∀ i : Pos, (q 2).toNat ≤ i.toNat → φ0 i = none) (m : List (List Int)) (n : Nat) : bSem p nt φ0 w0 rows (sub1 (sub1 (sub1 x5.body))) bTe (bHe rows m n) (fun e T H => e = .ret ∧ T = mkT [(q 3, .ptr (q 2) 0)] ∧ H = ⟨mkT (bR rows m n), q 5⟩) :=
  Sem.view (E0_ok p) h0 (mk0_for .lf _) (ms := []) (N := 20) (n := 20) [] (q 100) (q 5) [(q 2, q 2), (q 3, q 4), (q 4, q 5)] [(q 3, .ptr (q 2) 0)]
          [(q 1, .ro rows 0, .ro rows 0), (q 2, .cells [.ptr (q 4) 0, .ptr (q 6) 0], .cells [.ptr (q 3) 0, .any]), (q 3, .cells (.map (q 5) :: hd7 (.ofNat n)), .cells (.map (q 4) :: hd7 (.ofNat n))), (q 4, .gh 0 (m) 0, .gh 0 (m) 0)]
          (e := .ret) (ob := []) (by kernel_rfl) trivial (by kernel_rfl) (by kernel_rfl) (by kernel_rfl) ⟨relO, relPA (by kernel_rfl), relR (by kernel_rfl), relG, trivial⟩ (by kernel_rfl) ⟨rfl, rfl, rfl⟩
end
theorem begin_tri (p : PhT) (rows : List (List Int)) (hlen : rows.length ≤ 300) : Tri Tryz.prog (Es p .lf).globals (q 6) [.slc (q 1) 0 rows.length none 4] (bH0 rows) bV ⟨mkT (bR rows (bM rows rows.length) rows.length), q 5⟩ := by
  refine Sem.call (E0_ok p) (x := x5) (by kernel_rfl) fun nt φ0 w0 h0 => ?_
  refine Sem.seq (a := sub0 x5.body) (b := sub1 x5.body) (M := fun e T H => e = .normal ∧ T = mkT [(q 1, .slc (q 1) 0 rows.length none 4), (q 3, .ptr (q 2) 0)] ∧ H = ⟨mkT [(q 1, .ro rows 0), (q 2, .cells [.nilp, .nilp])], q 3⟩) ?_ ?_ ?_
  · exact g1 h0
  · rintro T H ⟨_, rfl, rfl⟩
    refine Sem.seq (a := sub0 (sub1 x5.body)) (b := sub1 (sub1 x5.body)) (M := fun e T H => e = .normal ∧ T = mkT [(q 1, .slc (q 1) 0 rows.length none 4), (q 3, .ptr (q 2) 0), (q 4, .ptr (q 3) 0)] ∧ H = bH rows [] 0 none 0) ?_ ?_ ?_
    · exact g2 h0
    · rintro T H ⟨_, rfl, rfl⟩
      refine Sem.seq (a := sub0 (sub1 (sub1 x5.body))) (b := sub1 (sub1 (sub1 x5.body))) (M := fun e T H => e = .normal ∧ T = bTe ∧ H = bHe rows (bM rows rows.length) rows.length) ?_ ?_ ?_
      · refine Sem.seq (a := sub0 (sub0 (sub1 (sub1 x5.body)))) (b := sub1 (sub0 (sub1 (sub1 x5.body)))) (M := fun e T H => e = .normal ∧ T = bT rows.length 0 ∧ H = bH rows [] 0 none 0) ?_ ?_ ?_
        · exact g3 h0
        · rintro T H ⟨_, rfl, rfl⟩
          exact Sem.block (id := 0) (b := .loop bL) (b_loop hlen h0 0)
        · rintro e T H hne ⟨rfl, _⟩; exact absurd rfl hne
      · rintro T H ⟨_, rfl, rfl⟩
        exact (g4 h0 _ _).mono (by rintro e T H ⟨rfl, rfl, rfl⟩; exact ⟨fun id h => (by cases h), rfl, _, rfl, rfl⟩)
      · rintro e T H hne ⟨rfl, _⟩; exact absurd rfl hne
    · rintro e T H hne ⟨rfl, _⟩; exact absurd rfl hne
  · rintro e T H hne ⟨rfl, _⟩; exact absurd rfl hne
end Go.Proofs.YtipkbcnibhnjdabGreatDoor
