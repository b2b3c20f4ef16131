/- A plain machine, sound for the given model, and contracts of functions over it, part 33: AH. Nothing is assumed. -/
import Derived.Test.YtapgbbaefieibabGreatDoorAD
import Derived.Test.YtapgbbaefieibabGreatDoorG32
set_option linter.unusedSimpArgs false
set_option linter.unusedVariables false
set_option linter.unusedSectionVars false
/- AH -/
namespace Go.PL
open Go Go.Proofs
set_option maxRecDepth 10000
set_option maxHeartbeats 4000000
set_option linter.unusedSimpArgs false
set_option linter.unusedVariables false
def toQ (r : Rt) : Q := ⟨r.neg, (val r.num).toNat, (val r.den).toNat⟩
theorem okRat_toQ {r : Rt} (h : okRat r = true) : r.num = digs (toQ r).n ∧ r.den = digs (toQ r).d ∧ lenQ 40 (toQ r) := by
  unfold okRat at h
  simp only [Bool.and_eq_true, Bool.not_eq_true'] at h
  obtain ⟨m, h1, h2⟩ := okNat_digs (a := r.num) (by simp_all)
  obtain ⟨n, h3, h4⟩ := okNat_digs (a := r.den) (by simp_all)
  have e1 : (toQ r).n = m := by unfold toQ; simp only; rw [h1, val_digs]; rfl
  have e2 : (toQ r).d = n := by unfold toQ; simp only; rw [h3, val_digs]; rfl
  refine ⟨by rw [e1]; exact h1, by rw [e2]; exact h3, by rw [e1]; exact h2, by rw [e2]; exact h4, ?_⟩
  rw [e2]
  rcases Nat.eq_zero_or_pos n with e | e
  · exfalso
    rw [e, digs_zero] at h3
    simp_all
  · exact e
def dropAt (l : List Rc) (t : Nat) : Prop := cmpQ (toQ (l.getD (t + 1) rc0).f) (toQ (l.getD t rc0).f) < 0
instance (l : List Rc) (t : Nat) : Decidable (dropAt l t) := by unfold dropAt; infer_instance
def dropsR (l : List Rc) : Bool := decide (∀ t, t < l.length - 1 → dropAt l t)
theorem lenQ.mono {L M : Nat} {q : Q} (h : lenQ L q) (hM : L ≤ M) : lenQ M q := ⟨Nat.le_trans h.1 hM, Nat.le_trans h.2.1 hM, h.2.2⟩
theorem dropsR_not {l : List Rc} {i : Nat} (hi : i + 1 < l.length) (h : ¬dropAt l i) : dropsR l = false := by
  unfold dropsR; rw [decide_eq_false_iff_not]; exact fun hh => h (hh i (by omega))
theorem dropsR_all {l : List Rc} (h : ∀ t, t < l.length - 1 → dropAt l t) : dropsR l = true := by
  unfold dropsR; rw [decide_eq_true_eq]; exact h
theorem okRp_rats {a : Int} {l : List Rc} (h : okRp ⟨a, l⟩ = true) : ∀ t, t < l.length → okRat (l.getD t rc0).f = true := by
  intro t ht
  unfold okRp at h
  rw [decide_eq_true_eq] at h
  have h1 := (h.2.2.2 t ht).1
  unfold okRc at h1
  simp only [Bool.and_eq_true] at h1
  exact h1.2
instance (a : Int) (l : List Rc) : Con CC 17 [.d (.agg [.i a, .sl (l.map encRc)])] (bRcs l) (.d (.i (if okRp ⟨a, l⟩ then 0 else 1))) := by
  constructor; intro hb
  refine Den.pureI Tryz.func17 rfl 1 [.tmp 2] (by kernel_rfl) rfl rfl (by simp only [initE_nil, initE_cons, Nat.reduceAdd]; exact rfl) ?_
  repeat' first | (with_reducible first | refine nx' ?_ | refine n0 ?_ | refine rD ?_ | refine n1 ?_ | refine nilB_i fun b hb => ?_ | refine nP ?_ ?_ | refine nS fun K hK => ?_ | (refine n2 ?_ ?_ <;> intro h <;> first | subst (h : _ = true) | subst (h : _ = false) | skip) | refine And.intro ?_ ?_ | refine nK ‹Imp _ _› ?_) | exact nl | fail
end Go.PL
