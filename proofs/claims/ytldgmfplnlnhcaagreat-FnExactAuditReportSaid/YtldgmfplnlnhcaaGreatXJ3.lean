/- A plain machine, sound for the given model, and contracts of functions over it, part 35: XJ3. Nothing is assumed. -/
import Derived.Test.YtldgmfplnlnhcaaGreatG27
import Derived.Test.YtldgmfplnlnhcaaGreatJL
import Derived.Test.YtldgmfplnlnhcaaGreatXJ2
set_option linter.unusedSimpArgs false
set_option linter.unusedVariables false
set_option linter.unusedSectionVars false
/- XJ3 -/
namespace Go.PL
open Go Go.Proofs
set_option maxRecDepth 10000
set_option maxHeartbeats 4000000
set_option linter.unusedSimpArgs false
set_option linter.unusedVariables false
theorem Ln.int {z : Int} (h : z.natAbs < 10000) : Ln 1 (z : Rat) := by
  refine ⟨?_, ?_⟩
  · rw [Rat.num_intCast]; exact digs_len_le (by omega)
  · rw [Rat.den_intCast, digs_one]; simp
theorem dPow_z (f : Rat) {z : Int} (h : 1 ≤ z) : f ^ (z - 1).toNat * (z : Rat) = dPow f z.toNat := by
  obtain ⟨k, rfl⟩ : ∃ k : Nat, z = (k : Int) + 1 := ⟨(z - 1).toNat, by omega⟩
  have e1 : ((k : Int) + 1 - 1).toNat = k := by omega
  have e2 : ((k : Int) + 1).toNat = k + 1 := by omega
  rw [e1, e2, dPow]
  congr 1
theorem pow_bnd {f : Rat} (hf : Ln 40 f) {k : Nat} (hk : k ≤ 8) : Ln 321 (f ^ k) := (hf.pow k).mono (by omega)
theorem pow_bnd7 {f : Rat} (hf : Ln 40 f) {k : Nat} (hk : k ≤ 7) : Ln 281 (f ^ k) := (hf.pow k).mono (by omega)
theorem dPow_len {f : Rat} (hf : Ln 40 f) {k : Nat} (hk : k ≤ 8) : Ln 300 (dPow f k) := by
  cases k with
  | zero => exact Ln.zero.mono (by omega)
  | succ k =>
    rw [dPow]
    have h1 := pow_bnd7 hf (show k ≤ 7 by omega)
    have h2 : Ln 1 (((k + 1 : Nat) : Int) : Rat) := Ln.int (by omega)
    exact (h1.mul h2).mono (by omega)
def ddX (f : Rat) (z : Int) : Rat := if 2 ≤ z then f ^ (z - 2).toNat * ((z * (z - 1) : Int) : Rat) else 0
instance (f : Rat) (al : List Rat) (z : Int) : Con CC 188 [jV f al, .d (.i z)] (Ln 40 f ∧ 0 ≤ z ∧ z ≤ 8) (.tup [xV (dPow f z.toNat), xV (ddX f z)]) := by
  constructor; intro ⟨hf, h0, h8⟩
  have hm : 0 ≤ z * (z - 1) ∧ z * (z - 1) ≤ 56 ∨ z = 0 := by
    rcases Int.lt_or_le 0 z with h | h
    · left
      exact ⟨Int.mul_nonneg (by omega) (by omega), Int.le_trans (Int.mul_le_mul h8 (show z - 1 ≤ 7 by omega) (by omega) (by omega)) (by omega)⟩
    · right; omega
  have l1 : 1 ≤ z → Ln 800 (f ^ (z - 1).toNat) := fun h => (pow_bnd hf (show (z - 1).toNat ≤ 8 by omega)).mono (by omega)
  have l2 : 2 ≤ z → Ln 800 (f ^ (z - 2).toNat) := fun h => (pow_bnd hf (show (z - 2).toNat ≤ 8 by omega)).mono (by omega)
  have l3 : Ln 800 (z : Rat) := (Ln.int (by omega)).mono (by omega)
  have l4 : Ln 800 ((z * (z - 1) : Int) : Rat) := by
    refine (Ln.int ?_).mono (show 1 ≤ 800 by omega)
    rcases hm with h | h
    · omega
    · subst h; simp
  by_cases g1 : 1 ≤ z
  · have e1 := dPow_z f g1
    have l1 := l1 g1
    by_cases g2 : 2 ≤ z
    · have l2 := l2 g2
      rw [show ddX f z = f ^ (z - 2).toNat * ((z * (z - 1) : Int) : Rat) from if_pos g2]
      refine Den.pureI Tryz.func188 rfl 2 [.cell 4 42, .cell 5 42] (by kernel_rfl) rfl rfl (by simp only [initE_nil, initE_cons, Nat.reduceAdd]; exact rfl) ?_
      repeat' first | (with_reducible first | refine nx' ?_ (by simp -implicitDefEqProofs (disch := omega) only [go_sem, e1, decide_eq_true g1, decide_eq_true g2]; exact rfl) | refine n0 ?_ | refine Wp.drawR (by decide +kernel) ?_ | refine Wp.drawSR [2, 3] [false, false, true, true] (.op 2 [1] (.op 3 [] .done)) (by decide +kernel) ?_ | refine n1 ?_ | refine nilB_i fun b hb => ?_ | refine nP ?_ ?_ | refine nS fun K hK => ?_ | (refine n2 ?_ ?_ <;> intro h <;> first | subst (h : _ = true) | subst (h : _ = false) | (simp only [FX, LX, e1, decide_eq_true g1, decide_eq_true g2] at h) | skip) | refine And.intro ?_ ?_ | refine nK ‹Imp _ _› ?_) | exact nl | fail
    · rw [show ddX f z = 0 from if_neg g2]
      refine Den.pureI Tryz.func188 rfl 2 [.cell 4 42, .cell 5 42] (by kernel_rfl) rfl rfl (by simp only [initE_nil, initE_cons, Nat.reduceAdd]; exact rfl) ?_
      repeat' first | (with_reducible first | refine nx' ?_ (by simp -implicitDefEqProofs (disch := omega) only [go_sem, e1, decide_eq_true g1, decide_eq_false g2]; exact rfl) | refine n0 ?_ | refine Wp.drawR (by decide +kernel) ?_ | refine Wp.drawSR [2, 3] [false, false, true, true] (.op 2 [1] (.op 3 [] .done)) (by decide +kernel) ?_ | refine n1 ?_ | refine nilB_i fun b hb => ?_ | refine nP ?_ ?_ | refine nS fun K hK => ?_ | (refine n2 ?_ ?_ <;> intro h <;> first | subst (h : _ = true) | subst (h : _ = false) | (simp only [FX, LX, e1, decide_eq_true g1, decide_eq_false g2] at h) | skip) | refine And.intro ?_ ?_ | refine nK ‹Imp _ _› ?_) | exact nl | fail
  · have g2 : ¬ 2 ≤ z := by omega
    rw [show ddX f z = 0 from if_neg g2, show z.toNat = 0 by omega, dPow]
    refine Den.pureI Tryz.func188 rfl 2 [.cell 4 42, .cell 5 42] (by kernel_rfl) rfl rfl (by simp only [initE_nil, initE_cons, Nat.reduceAdd]; exact rfl) ?_
    repeat' first | (with_reducible first | refine nx' ?_ (by simp -implicitDefEqProofs (disch := omega) only [go_sem, decide_eq_false g1, decide_eq_false g2]; exact rfl) | refine n0 ?_ | refine Wp.drawR (by decide +kernel) ?_ | refine Wp.drawSR [2, 3] [false, false, true, true] (.op 2 [1] (.op 3 [] .done)) (by decide +kernel) ?_ | refine n1 ?_ | refine nilB_i fun b hb => ?_ | refine nP ?_ ?_ | refine nS fun K hK => ?_ | (refine n2 ?_ ?_ <;> intro h <;> first | subst (h : _ = true) | subst (h : _ = false) | (simp only [FX, LX, decide_eq_false g1, decide_eq_false g2] at h) | skip) | refine And.intro ?_ ?_ | refine nK ‹Imp _ _› ?_) | exact nl | fail
instance (f : Rat) (al : List Rat) : Con CC 173 [jV f al] (al.length ≤ 4 ∧ f ≠ 0 ∧ Ln 40 f ∧ LnV 40 al) (jV (1 / f) (al.map fun x => -(1 / f * (1 / f)) * x)) := by
  constructor; intro ⟨hn, h0, hf, hal⟩
  have hal := hal.mono (show 40 ≤ 300 by omega)
  have l1 : Ln 1 1 := Ln.int (z := 1) (by decide)
  have l2 := l1.div hf h0
  have l3 := l2.mul l2
  have l4 := l3.mul l2
  have l9 : Ln 800 ((2 : Int) : Rat) := (Ln.int (by decide)).mono (by omega)
  have l5 := l3.neg.mono (show 1 + 40 + (1 + 40) ≤ 300 by omega)
  have l1 := l1.mono (show 1 ≤ 800 by omega)
  have l2 := l2.mono (show 1 + 40 ≤ 800 by omega)
  have l3 := l3.mono (show 1 + 40 + (1 + 40) ≤ 800 by omega)
  have l4 := l4.mono (show 1 + 40 + (1 + 40) + (1 + 40) ≤ 800 by omega)
  have l6 := hf.mono (show 40 ≤ 800 by omega)
  refine Den.pureP Tryz.func173 rfl 1 [.cell 2 120] (by kernel_rfl) rfl rfl (by simp only [initE_nil, initE_cons, Nat.reduceAdd]; exact rfl) ?_
  repeat' first | (with_reducible first | refine nx' ?_ | refine n0 ?_ | refine Wp.drawR (by decide +kernel) ?_ | refine Wp.drawSR [3, 6, 7, 8, 9, 10] [false, false, false, true, false, false, true, true, true, true, true] (.op 3 [0,1,4,5] (.op 6 [0,1] (.op 7 [0,1] (.op 8 [0,1] (.op 9 [] (.op 10 [] .done)))))) (by decide +kernel) ?_ | refine Wp.drawSR [4, 5] [false, false, false, false, true, true] (.op 4 [0,1,2,3] (.op 5 [] .done)) (by decide +kernel) ?_ | refine n1 ?_ | refine nilB_i fun b hb => ?_ | refine nP ?_ ?_ | refine nS fun K hK => ?_ | (refine n2 ?_ ?_ <;> intro h <;> first | subst (h : _ = true) | subst (h : _ = false) | skip) | refine And.intro ?_ ?_ | refine nK ‹Imp _ _› ?_) | exact nl | fail
instance (f : Rat) (al : List Rat) (z : Int) : Con CC 176 [jV f al, .d (.i z)] (al.length ≤ 4 ∧ Ln 40 f ∧ LnV 40 al ∧ 0 ≤ z ∧ z ≤ 8) (jV (f ^ z.toNat) (al.map fun x => dPow f z.toNat * x)) := by
  constructor; intro ⟨hn, hf, hal, h0, h8⟩
  have hal := hal.mono (show 40 ≤ 300 by omega)
  have hd := dPow_len hf (show z.toNat ≤ 8 by omega)
  refine Den.pureP Tryz.func176 rfl 2 [.cell 4 120] (by kernel_rfl) rfl rfl (by simp only [initE_nil, initE_cons, Nat.reduceAdd]; exact rfl) ?_
  repeat' first | (with_reducible first | refine nx' ?_ | refine n0 ?_ | refine Wp.drawR (by decide +kernel) ?_ | refine Wp.drawSR [4, 7, 8] [false, false, false, false, true, false, false, true, true] (.op 4 [0,5,6] (.op 7 [] (.op 8 [] .done))) (by decide +kernel) ?_ | refine n1 ?_ | refine nilB_i fun b hb => ?_ | refine nP ?_ ?_ | refine nS fun K hK => ?_ | (refine n2 ?_ ?_ <;> intro h <;> first | subst (h : _ = true) | subst (h : _ = false) | skip) | refine And.intro ?_ ?_ | refine nK ‹Imp _ _› ?_) | exact nl | fail
instance (x : Rat) : Con CC 189 [xV x] True (.d (.b (!fitX x))) := by
  constructor; intro _
  refine Den.pureI Tryz.func189 rfl 1 [.tmp 2] (by kernel_rfl) rfl rfl (by simp only [initE_nil, initE_cons, Nat.reduceAdd]; exact rfl) ?_
  repeat' first | (with_reducible first | refine nx' ?_ | refine n0 ?_ | refine rD ?_ | refine n1 ?_ | refine nilB_i fun b hb => ?_ | refine nP ?_ ?_ | refine nS fun K hK => ?_ | (refine n2 ?_ ?_ <;> intro h <;> first | subst (h : _ = true) | subst (h : _ = false) | skip) | refine And.intro ?_ ?_ | refine nK ‹Imp _ _› ?_) | exact nl | fail
  rfl
theorem indexFunc_X (g : FuncId) (cap : List D) (p : Rat → Bool) (a : List Rat) (ha : a.length < 4611686018427387904) (hp : ∀ x ∈ a, CC g (xV x :: dV cap) [] (.d (.b (p x))) []) :
    CC 180 [vV a, .d (.fn (.func g) [] cap)] [] (.d (.i (idxOf p a))) [] := by
  refine Den.pureI Tryz.func180 rfl 2 [.tmp 4] (by kernel_rfl) rfl rfl (by simp only [initE_nil, initE_cons, Nat.reduceAdd]; exact rfl) ?_
  repeat' first | (with_reducible first | refine nx' ?_ | refine n0 ?_ | refine rD ?_ | refine n1 ?_ | refine nilB_i fun b hb => ?_ | refine nP ?_ ?_ | refine nS fun K hK => ?_ | (refine n2 ?_ ?_ <;> intro h <;> first | subst (h : _ = true) | subst (h : _ = false) | skip) | refine And.intro ?_ ?_ | refine nK ‹Imp _ _› ?_) | exact nl | fail
  refine Wp.loopR (fun i : Nat => ⟨[(0, vV a), (1, .d (.fn (.func g) [] cap)), (7, .d (.i a.length)), (8, .d (.i i))], []⟩) (fun i => a.length - i) (fun i => i ≤ a.length ∧ ∀ t, t < i → p (a.getD t 0) = false) 0 Weak.lo ⟨by simp, by intro t ht; omega⟩ ?_
  rintro i ⟨hi, hd⟩ K hK
  by_cases hil : i < a.length
  · have hpi := hp _ (getD_mem 0 hil)
    repeat' first | (with_reducible first | refine nx' ?_ | refine n0 ?_ | refine rD ?_ | refine n1 ?_ | refine nilB_i fun b hb => ?_ | refine nPc (hpi) ?_ | refine nP ?_ ?_ | refine nS fun K hK => ?_ | (refine n2 ?_ ?_ <;> intro h <;> first | subst (h : _ = true) | subst (h : _ = false) | skip) | refine And.intro ?_ ?_ | refine nK ‹Imp _ _› ?_) | exact nl | fail
    · rw [idxOf_at _ a i (by omega) hd h]
    · exact ⟨i + 1, by omega, ⟨by omega, fun t ht => by rcases (show t < i ∨ t = i by omega) with e | e; exact hd t e; rw [e]; exact h⟩, Weak.lo⟩
  · repeat' first | (with_reducible first | refine nx' ?_ | refine n0 ?_ | refine rD ?_ | refine n1 ?_ | refine nilB_i fun b hb => ?_ | refine nP ?_ ?_ | refine nS fun K hK => ?_ | (refine n2 ?_ ?_ <;> intro h <;> first | subst (h : _ = true) | subst (h : _ = false) | skip) | refine And.intro ?_ ?_ | refine nK ‹Imp _ _› ?_) | exact nl | fail
    rw [idxOf_none _ a fun t ht => hd t (by omega)]
theorem containsFunc_X (g : FuncId) (cap : List D) (p : Rat → Bool) (a : List Rat) (ha : a.length < 4611686018427387904) (hp : ∀ x ∈ a, CC g (xV x :: dV cap) [] (.d (.b (p x))) []) :
    CC 164 [vV a, .d (.fn (.func g) [] cap)] [] (.d (.b (a.any p))) [] := by
  refine Den.pureI Tryz.func164 rfl 2 [.tmp 4] (by kernel_rfl) rfl rfl (by simp only [initE_nil, initE_cons, Nat.reduceAdd]; exact rfl) ?_
  repeat' first | (with_reducible first | refine nx' ?_ | refine n0 ?_ | refine rD ?_ | refine n1 ?_ | refine nilB_i fun b hb => ?_ | refine nPc (indexFunc_X g cap p a ha hp) ?_ | refine nP ?_ ?_ | refine nS fun K hK => ?_ | (refine n2 ?_ ?_ <;> intro h <;> first | subst (h : _ = true) | subst (h : _ = false) | skip) | refine And.intro ?_ ?_ | refine nK ‹Imp _ _› ?_) | exact nl | fail
  rw [idxOf_any]
theorem any_all {l : List Rat} : (l.any fun x => !fitX x) = !l.all fitX := by
  induction l with
  | nil => rfl
  | cons x l ih => simp [ih]
instance (l : List Rat) : Con CC 177 [vV l] (l.length ≤ 1000) (.tup [vV (if l.all fitX then l else []), .d (.i (if l.all fitX then 0 else 7))]) := by
  constructor; intro hn
  have hc := containsFunc_X 189 [] (fun x => !fitX x) l (by omega) (fun x hx => Con.ok (C := CC) (vs := [xV x]) trivial)
  rw [any_all] at hc
  cases ha : l.all fitX with
  | true =>
    rw [ha] at hc
    refine Den.pureI Tryz.func177 rfl 1 [.tmp 2, .tmp 3] (by kernel_rfl) rfl rfl (by simp only [initE_nil, initE_cons, Nat.reduceAdd]; exact rfl) ?_
    repeat' first | (with_reducible first | refine nx' ?_ | refine n0 ?_ | refine rD ?_ | refine n1 ?_ | refine nilB_i fun b hb => ?_ | refine nPc (hc) ?_ | refine nP ?_ ?_ | refine nS fun K hK => ?_ | (refine n2 ?_ ?_ <;> intro h <;> first | subst (h : _ = true) | subst (h : _ = false) | skip) | refine And.intro ?_ ?_ | refine nK ‹Imp _ _› ?_) | exact nl | fail
  | false =>
    rw [ha] at hc
    refine Den.pureI Tryz.func177 rfl 1 [.tmp 2, .tmp 3] (by kernel_rfl) rfl rfl (by simp only [initE_nil, initE_cons, Nat.reduceAdd]; exact rfl) ?_
    repeat' first | (with_reducible first | refine nx' ?_ | refine n0 ?_ | refine rD ?_ | refine n1 ?_ | refine nilB_i fun b hb => ?_ | refine nPc (hc) ?_ | refine nP ?_ ?_ | refine nS fun K hK => ?_ | (refine n2 ?_ ?_ <;> intro h <;> first | subst (h : _ = true) | subst (h : _ = false) | skip) | refine And.intro ?_ ?_ | refine nK ‹Imp _ _› ?_) | exact nl | fail
    rfl
instance : Con CC 177 [.d (.sl [])] True (.tup [.d (.sl []), .d (.i 0)]) :=
  ⟨fun _ => Con.ok (C := CC) (n := 177) (vs := [vV []]) (by simp)⟩
theorem fitX_zero : fitX 0 = true := by
  have h : Ln 40 0 := Ln.zero.mono (by omega)
  unfold fitX
  rw [Bool.and_eq_true, decide_eq_true_eq, decide_eq_true_eq]
  exact h
theorem fitX_eq {x : Rat} : (decide ((nuX x).length ≤ 40) && decide ((deX x).length ≤ 40)) = fitX x := rfl
instance (f : Rat) (al : List Rat) : Con CC 155 [jV f al] (al.length ≤ 4) (.d (.b (fitX f && al.all fitX))) := by
  constructor; intro hn
  cases ha : al.all fitX with
  | true =>
    refine Den.pureI Tryz.func155 rfl 1 [.tmp 2] (by kernel_rfl) rfl rfl (by simp only [initE_nil, initE_cons, Nat.reduceAdd]; exact rfl) ?_
    repeat' first | (with_reducible first | refine nx' ?_ (by simp -implicitDefEqProofs (disch := omega) only [go_sem, fitX_eq, fitX_zero, ha]; exact rfl) | refine n0 ?_ | refine rD ?_ | refine n1 ?_ | refine nilB_i fun b hb => ?_ | refine nP ?_ ?_ | refine nS fun K hK => ?_ | (refine n2 ?_ ?_ <;> intro h <;> first | subst (h : _ = true) | subst (h : _ = false) | (simp only [FX, LX, fitX_eq, fitX_zero, ha] at h) | skip) | refine And.intro ?_ ?_ | refine nK ‹Imp _ _› ?_) | exact nl | fail
    · have h2 : fitX f = true := by assumption
      rw [h2]; rfl
    · rw [h]
  | false =>
    refine Den.pureI Tryz.func155 rfl 1 [.tmp 2] (by kernel_rfl) rfl rfl (by simp only [initE_nil, initE_cons, Nat.reduceAdd]; exact rfl) ?_
    repeat' first | (with_reducible first | refine nx' ?_ (by simp -implicitDefEqProofs (disch := omega) only [go_sem, fitX_eq, fitX_zero, ha]; exact rfl) | refine n0 ?_ | refine rD ?_ | refine n1 ?_ | refine nilB_i fun b hb => ?_ | refine nP ?_ ?_ | refine nS fun K hK => ?_ | (refine n2 ?_ ?_ <;> intro h <;> first | subst (h : _ = true) | subst (h : _ = false) | (simp only [FX, LX, fitX_eq, fitX_zero, ha] at h) | skip) | refine And.intro ?_ ?_ | refine nK ‹Imp _ _› ?_) | exact nl | fail
end Go.PL
