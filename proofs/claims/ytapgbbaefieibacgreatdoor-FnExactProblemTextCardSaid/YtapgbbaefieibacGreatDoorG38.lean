/- A plain machine, sound for the given model, and contracts of functions over it, part 38: EE EF EG. Nothing is assumed. -/
import Derived.Test.YtapgbbaefieibacGreatDoorED
set_option linter.unusedSimpArgs false
set_option linter.unusedVariables false
set_option linter.unusedSectionVars false
/- EE -/
namespace Go.PL
open Go Go.Proofs
set_option maxRecDepth 10000
set_option maxHeartbeats 4000000
set_option linter.unusedSimpArgs false
set_option linter.unusedVariables false
set_option maxHeartbeats 4000000 in
instance (o a b n p : Int) : Con CC 58 [.d (.agg [.i o, .i a, .i b, .i n]), .d (.i p)] (0 ≤ p ∧ p ≤ 1048576) (.d (.b (l05N ⟨o, a, b, n⟩ p))) := by
  constructor; intro ⟨hp1, hp2⟩
  refine Den.pureI Tryz.func58 rfl 2 [.tmp 4] (by kernel_rfl) rfl rfl (by simp only [initE_nil, initE_cons, Nat.reduceAdd]; exact rfl) ?_
  repeat' first | (with_reducible first | refine nx' ?_ | refine n0 ?_ | refine Wp.drawR (by decide +kernel) ?_ | refine Wp.drawSR [20, 21, 22, 23, 24] [false, false, false, false, false, false, false, false, false, false, false, false, false, false, false, false, false, false, false, false, true, true, true, true, true] (.op 20 [15,16] (.op 21 [15,16] (.op 22 [] (.op 23 [] (.op 24 [] .done))))) (by decide +kernel) ?_ | refine n1 ?_ | refine nilB_i fun b hb => ?_ | refine nP ?_ ?_ | refine nS fun K hK => ?_ | (refine n2 ?_ ?_ <;> intro h <;> first | subst (h : _ = true) | subst (h : _ = false) | skip) | refine And.intro ?_ ?_ | refine nK ‹Imp _ _› ?_) | exact nl | fail
  all_goals (congr 3; first | (simp [l05N, *, beq_dec]; done) | (simp [l05N, *, beq_dec]; omega) | (rw [Bool.eq_iff_iff]; unfold l05N; simp only [beq_iff_eq]; (repeat' split) <;> simp only [Bool.and_eq_true, decide_eq_true_eq, Bool.false_eq_true, false_iff, iff_false] <;> omega))
end Go.PL

/- EF -/
namespace Go.PL
open Go Go.Proofs
set_option maxRecDepth 10000
set_option maxHeartbeats 4000000
set_option linter.unusedSimpArgs false
set_option linter.unusedVariables false
theorem kids_two (o : Int) : kidsN o = 2 ↔ 3 ≤ o ∧ o ≤ 6 := by unfold kidsN; split <;> (try split) <;> omega
theorem kids_one (o : Int) : kidsN o = 1 ↔ o = 7 ∨ o = 8 := by unfold kidsN; split <;> (try split) <;> omega
theorem kids_bnd (o : Int) : 0 ≤ kidsN o ∧ kidsN o ≤ 2 := by unfold kidsN; split <;> (try split) <;> omega
theorem nstep_inv {bg dp : List Int} {i : Nat} {x : Nd} {b d : Int} (h : nstep bg dp i x = some (b, d)) :
    plOk x i = true ∧ (kidsN x.op = 1 → x.a = (i : Int) - 1 ∧ b = bg.getD x.a.toNat 0 ∧ d = dp.getD x.a.toNat 0 + 1) ∧
    (kidsN x.op = 2 → x.b = (i : Int) - 1 ∧ x.a = bg.getD x.b.toNat 0 - 1 ∧ b = bg.getD x.a.toNat 0 ∧ d = max (dp.getD x.a.toNat 0) (dp.getD x.b.toNat 0) + 1) ∧
    (kidsN x.op = 0 → b = i ∧ d = 1) := by
  unfold nstep at h
  by_cases hp : plOk x i = true
  · rw [if_pos hp] at h
    refine ⟨hp, fun k => ?_, fun k => ?_, fun k => ?_⟩
    · rw [if_pos k] at h
      split at h
      · cases h; exact ⟨by assumption, rfl, rfl⟩
      · cases h
    · rw [if_neg (by omega), if_pos k] at h
      split at h
      · rename_i hh; cases h; exact ⟨hh.1, hh.2, rfl, rfl⟩
      · cases h
    · rw [if_neg (by omega), if_neg (by omega)] at h
      cases h; exact ⟨rfl, rfl⟩
  · rw [if_neg hp] at h; cases h
theorem first_c (l : List Nd) (hl : l.length ≤ 1048576) {i : Nat} {bg dp : List Int} (hs : shp l i = some (bg, dp)) (hi : i ≤ l.length) (k : Nat) (hk : k < i) :
    CC 60 [.d (.agg [.sl (l.map encNd)]), .d (.i k)] [] (.d (.i (bg.getD k 0))) [] := by
  obtain ⟨lb, ld, hat, hbb, hdb⟩ := shp_spec hs
  refine Den.pureI Tryz.func60 rfl 2 [.tmp 4] (by kernel_rfl) rfl rfl (by simp only [initE_nil, initE_cons, Nat.reduceAdd]; exact rfl) ?_
  repeat' first | (with_reducible first | refine nx' ?_ | refine n0 ?_ | refine rD ?_ | refine n1 ?_ | refine nilB_i fun b hb => ?_ | refine nP ?_ ?_ | refine nS fun K hK => ?_ | (refine n2 ?_ ?_ <;> intro h <;> first | subst (h : _ = true) | subst (h : _ = false) | skip) | refine And.intro ?_ ?_ | refine nK ‹Imp _ _› ?_) | exact nl | fail
  refine Wp.loopR (fun t : Nat => ⟨[(1, .d (.i t)), (2, .ref 0 0 0), (5, .ref 1 0 0)], [.var [.d (.sl (l.map encNd))] false, .var [.d (.i (l.getD t nd0).op), .d (.i (l.getD t nd0).a), .d (.i (l.getD t nd0).b), .d (.i (l.getD t nd0).n)] false]⟩) (fun t => t) (fun t => t < i ∧ bg.getD t 0 = bg.getD k 0) k Weak.lo ⟨hk, rfl⟩ ?_
  rintro t ⟨ht, he⟩ K hK
  obtain ⟨hp, q1, q2, q0⟩ := nstep_inv (hat t ht)
  obtain ⟨ka, kb⟩ := plOk_kids hp
  have kb2 := kids_bnd (l.getD t nd0).op
  have ht2 := kids_two (l.getD t nd0).op
  have ht1 := kids_one (l.getD t nd0).op
  generalize hx : l.getD t nd0 = x at *
  by_cases k0 : kidsN x.op = 0
  · obtain ⟨r1, r2⟩ := q0 k0
    have m1 : ¬ (3 ≤ x.op ∧ x.op ≤ 6) := fun h => by have := ht2.2 h; omega
    have m2 : ¬ (x.op = 7 ∨ x.op = 8) := fun h => by have := ht1.2 h; omega
    repeat' first | (with_reducible first | refine nx' ?_ (by simp -implicitDefEqProofs (disch := omega) only [go_sem, hx]; exact rfl) | refine n0 ?_ | refine rD ?_ | refine n1 ?_ | refine nilB_i fun b hb => ?_ | refine nP ?_ ?_ | refine nS fun K hK => ?_ | (refine n2 ?_ ?_ <;> intro h <;> first | subst (h : _ = true) | subst (h : _ = false) | (simp only [FX, LX, hx] at h) | skip) | refine And.intro ?_ ?_ | refine nK ‹Imp _ _› ?_) | exact nl | fail
    all_goals (congr 3; omega)
  · have hka := ka (by omega)
    have hab : bg.getD t 0 = bg.getD x.a.toNat 0 := by
      by_cases k1 : kidsN x.op = 1
      · exact (q1 k1).2.1
      · exact (q2 (by omega)).2.2.1
    have hor : (3 ≤ x.op ∧ x.op ≤ 6) ∨ x.op = 7 ∨ x.op = 8 := by
      by_cases k1 : kidsN x.op = 1
      · exact .inr (ht1.1 k1)
      · exact .inl (ht2.1 (by omega))
    have ec : ((x.a.toNat : Nat) : Int) = x.a := by omega
    repeat' first | (with_reducible first | refine nx' ?_ (by simp -implicitDefEqProofs (disch := omega) only [go_sem, hx]; exact rfl) | refine n0 ?_ | refine rD ?_ | refine n1 ?_ | refine nilB_i fun b hb => ?_ | refine nP ?_ ?_ | refine nS fun K hK => ?_ | (refine n2 ?_ ?_ <;> intro h <;> first | subst (h : _ = true) | subst (h : _ = false) | (simp only [FX, LX, hx] at h) | skip) | refine And.intro ?_ ?_ | refine nK ‹Imp _ _› ?_) | exact nl | fail
    all_goals exact ⟨x.a.toNat, by omega, ⟨by omega, by omega⟩, (Weak.low (by simp -implicitDefEqProofs (disch := omega) only [go_sem, sub_nil, sub_cons, LX, ec]; try ((repeat' refine And.intro ?_ ?_) <;> first | rfl | trivial | (congr 3; omega) | (congr 1; omega))))⟩
end Go.PL

/- EG -/
namespace Go.PL
open Go Go.Proofs
set_option maxRecDepth 10000
set_option maxHeartbeats 4000000
set_option linter.unusedSimpArgs false
set_option linter.unusedVariables false
theorem l05_plOk {x : Nd} {i : Nat} (h : l05N x i = true) (h2 : 3 ≤ x.op ∧ x.op ≤ 6 → x.b = (i : Int) - 1) : plOk x i = true ∧ (kidsN x.op = 1 → x.a = (i : Int) - 1) := by
  obtain ⟨op, a, b, n⟩ := x
  simp only at h2
  by_cases ho : op < 1 ∨ 8 < op
  · unfold l05N at h; rw [if_pos ho] at h; cases h
  have hc : op = 1 ∨ op = 2 ∨ op = 3 ∨ op = 4 ∨ op = 5 ∨ op = 6 ∨ op = 7 ∨ op = 8 := by omega
  rcases hc with rfl | rfl | rfl | rfl | rfl | rfl | rfl | rfl <;> simp [l05N] at h <;> simp [plOk, numOk, chOk, kidsN] <;> (try simp at h2) <;> omega
theorem plOk_l05 {x : Nd} {i : Nat} (h : plOk x i = true) (h1 : kidsN x.op = 1 → x.a = (i : Int) - 1) (h2 : kidsN x.op = 2 → x.b = (i : Int) - 1 ∧ x.a < x.b) : l05N x i = true := by
  obtain ⟨op, a, b, n⟩ := x
  simp only at h1 h2
  by_cases ho : op < 1 ∨ 8 < op
  · unfold plOk at h
    rw [decide_eq_false (by simp only; omega)] at h
    simp at h
  have hc : op = 1 ∨ op = 2 ∨ op = 3 ∨ op = 4 ∨ op = 5 ∨ op = 6 ∨ op = 7 ∨ op = 8 := by omega
  rcases hc with rfl | rfl | rfl | rfl | rfl | rfl | rfl | rfl <;> simp [plOk, numOk, chOk, kidsN] at h <;> (try simp [kidsN] at h1 h2) <;> simp [l05N] <;> omega
end Go.PL
