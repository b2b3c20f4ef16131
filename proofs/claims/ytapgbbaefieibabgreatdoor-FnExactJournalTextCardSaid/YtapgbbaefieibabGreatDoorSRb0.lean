/- A plain machine, sound for the given model, and contracts of functions over it, part 35: SRb0. Nothing is assumed. -/
import Derived.Test.YtapgbbaefieibabGreatDoorSRa
set_option linter.unusedSimpArgs false
set_option linter.unusedVariables false
set_option linter.unusedSectionVars false
/- SRb0 -/
namespace Go.PL
open Go Go.Proofs
set_option maxRecDepth 10000
set_option maxHeartbeats 4000000
set_option linter.unusedSimpArgs false
set_option linter.unusedVariables false
theorem cmpQ_zero {r s : Rt} (hr : okRat r = true) (hs : okRat s = true) : cmpQ (toQ r) (toQ s) = 0 ↔ r = s := by
  obtain ⟨m, n, e1, g1, p1, z1, _, _⟩ := okRat_form hr
  obtain ⟨u, v, e2, g2, p2, z2, _, _⟩ := okRat_form hs
  constructor
  · intro h
    have t1 : toQ r = ⟨r.neg, m, n⟩ := by rw [e1]; simp [toQ, val_digs]
    have t2 : toQ s = ⟨s.neg, u, v⟩ := by rw [e2]; simp [toQ, val_digs]
    rw [t1, t2] at h
    unfold cmpQ at h
    rw [Int.sign_eq_zero_iff_zero] at h
    simp only at h
    have hk : m * v = u * n := by
      unfold sg at h
      generalize m * v = p at *
      generalize u * n = q at *
      revert h; cases r.neg <;> cases s.neg <;> simp <;> omega
    have hd : n = v := by
      refine Nat.dvd_antisymm ?_ ?_
      · exact (Nat.Coprime.dvd_of_dvd_mul_left (k := n) (m := m) (n := v) (by rw [Nat.coprime_comm]; exact g1) ⟨u, by rw [hk, Nat.mul_comm]⟩)
      · exact (Nat.Coprime.dvd_of_dvd_mul_left (k := v) (m := u) (n := n) (by rw [Nat.coprime_comm]; exact g2) ⟨m, by rw [← hk, Nat.mul_comm]⟩)
    have hm : m = u := by rw [hd] at hk; exact Nat.eq_of_mul_eq_mul_right (by omega) hk
    have hn : r.neg = s.neg := by
      rw [← hm, ← hd] at h
      rcases Nat.eq_zero_or_pos m with e | e
      · rw [z1 e, z2 (by omega)]
      · have hp := Nat.mul_pos e p1
        unfold sg at h
        generalize m * n = p at *
        revert h; cases r.neg <;> cases s.neg <;> simp <;> omega
    rw [e1, e2, hn, hm, hd]
  · rintro rfl
    unfold cmpQ; simp
theorem bV_bnd {l : List Rt} (h : okVec l = true) : l.length ≤ 4 := (okVec_parts h).1
end Go.PL
