/- A plain machine, sound for the given model, and contracts of functions over it, part 37: ED. Nothing is assumed. -/
import Derived.Test.YtapgbbaefieibacGreatDoorG33
set_option linter.unusedSimpArgs false
set_option linter.unusedVariables false
set_option linter.unusedSectionVars false
/- ED -/
namespace Go.PL
open Go Go.Proofs
set_option maxRecDepth 10000
set_option maxHeartbeats 4000000
set_option linter.unusedSimpArgs false
set_option linter.unusedVariables false
/-- The greatest of a list. -/
def maxT (l : List Int) : Nat → Int
  | 0 => l.getD 0 0
  | k + 1 => max (maxT l k) (l.getD (k + 1) 0)
theorem maxT_le {l : List Int} {c : Int} : ∀ k, maxT l k ≤ c ↔ ∀ t, t ≤ k → l.getD t 0 ≤ c
  | 0 => ⟨fun h t ht => by obtain rfl : t = 0 := by omega
                           exact h, fun h => h 0 (Nat.le_refl _)⟩
  | k + 1 => by
    have ih := maxT_le (l := l) (c := c) k
    constructor
    · intro h t ht
      have h1 : maxT l k ≤ c := by unfold maxT at h; omega
      have h2 : l.getD (k + 1) 0 ≤ c := by unfold maxT at h; omega
      by_cases e : t = k + 1
      · rw [e]; exact h2
      · exact ih.1 h1 t (by omega)
    · intro h
      have h1 := ih.2 fun t ht => h t (by omega)
      have h2 := h (k + 1) (Nat.le_refl _)
      unfold maxT; omega
instance (l : List Int) : Con CC 90 [.d (.sl (l.map .i))] (1 ≤ l.length ∧ l.length ≤ 1048576) (.d (.i (maxT l (l.length - 1)))) := by
  constructor; intro ⟨h1, h2⟩
  refine Den.pureI Tryz.func90 rfl 1 [.tmp 2] (by kernel_rfl) rfl rfl (by simp only [initE_nil, initE_cons, Nat.reduceAdd]; exact rfl) ?_
  repeat' first | (with_reducible first | refine nx' ?_ | refine n0 ?_ | refine rD ?_ | refine n1 ?_ | refine nilB_i fun b hb => ?_ | refine nP ?_ ?_ | refine nS fun K hK => ?_ | (refine n2 ?_ ?_ <;> intro h <;> first | subst (h : _ = true) | subst (h : _ = false) | skip) | refine And.intro ?_ ?_ | refine nK ‹Imp _ _› ?_) | exact nl | fail
  refine Wp.loopR (fun k : Nat => ⟨[(0, .d (.sl (l.map .i))), (3, .d (.i (maxT l k))), (4, .d (.i ((k : Int) + 1)))], []⟩) (fun k => l.length - k) (fun k => k < l.length) 0 (Weak.low (by simp -implicitDefEqProofs (disch := omega) only [go_sem, sub_nil, sub_cons, LX, maxT]; try ((repeat' refine And.intro ?_ ?_) <;> first | rfl | trivial | (congr 3; omega) | (congr 1; omega)))) (by omega) ?_
  rintro k hk K hK
  have e : ((k : Int) + 1).toNat = k + 1 := by omega
  repeat' first | (with_reducible first | refine nx' ?_ (by simp -implicitDefEqProofs (disch := omega) only [go_sem, ite_max, e]; exact rfl) | refine n0 ?_ | refine rD ?_ | refine n1 ?_ | refine nilB_i fun b hb => ?_ | refine nP ?_ ?_ | refine nS fun K hK => ?_ | (refine n2 ?_ ?_ <;> intro h <;> first | subst (h : _ = true) | subst (h : _ = false) | (simp only [FX, LX, ite_max, e] at h) | skip) | refine And.intro ?_ ?_ | refine nK ‹Imp _ _› ?_) | exact nl | fail
  · exact ⟨k + 1, by omega, by omega, (Weak.low (by simp -implicitDefEqProofs (disch := omega) only [go_sem, sub_nil, sub_cons, LX, maxT, show (((k + 1 : Nat) : Int) + 1) = (k : Int) + 1 + 1 by omega]; try ((repeat' refine And.intro ?_ ?_) <;> first | rfl | trivial | (congr 3; omega) | (congr 1; omega))))⟩
  · obtain rfl : k = l.length - 1 := by omega
    rfl
instance (b : Bool) (c : Int) : Con CC 47 [.d (.b b), .d (.i c)] True (.d (.i (if b then 0 else c))) := by
  constructor; intro pre
  refine Den.pureI Tryz.func47 rfl 2 [.tmp 4] (by kernel_rfl) rfl rfl (by simp only [initE_nil, initE_cons, Nat.reduceAdd]; exact rfl) ?_
  repeat' first | (with_reducible first | refine nx' ?_ | refine n0 ?_ | refine rD ?_ | refine n1 ?_ | refine nilB_i fun b hb => ?_ | refine nP ?_ ?_ | refine nS fun K hK => ?_ | (refine n2 ?_ ?_ <;> intro h <;> first | subst (h : _ = true) | subst (h : _ = false) | skip) | refine And.intro ?_ ?_ | refine nK ‹Imp _ _› ?_) | exact nl | fail
instance (l : List Nd) : Con CC 71 [.d (.agg [.sl (l.map encNd)])] (l.length ≤ 1048576) (.d (.b (okE l))) := by
  constructor; intro hl
  by_cases hn : 1 ≤ l.length ∧ l.length ≤ 60
  · obtain ⟨hn1, hn2⟩ := hn
    cases hs : shp l l.length with
    | none =>
      obtain ⟨z1, z2, z3⟩ := sh_none hs
      have hk : okE l = false := by unfold okE; rw [hs]; simp
      refine Den.pureI Tryz.func71 rfl 1 [.tmp 2] (by kernel_rfl) rfl rfl (by simp only [initE_nil, initE_cons, Nat.reduceAdd]; exact rfl) ?_
      repeat' first | (with_reducible first | refine nx' ?_ (by simp -implicitDefEqProofs (disch := omega) only [go_sem, z1, z2, z3, List.map_nil]; exact rfl) | refine n0 ?_ | refine rD ?_ | refine n1 ?_ | refine nilB_i fun b hb => ?_ | refine nP ?_ ?_ | refine nS fun K hK => ?_ | (refine n2 ?_ ?_ <;> intro h <;> first | subst (h : _ = true) | subst (h : _ = false) | (simp only [FX, LX, z1, z2, z3, List.map_nil] at h) | skip) | refine And.intro ?_ ?_ | refine nK ‹Imp _ _› ?_) | exact nl | fail
      all_goals (rw [hk])
    | some q =>
      obtain ⟨bg, dp⟩ := q
      obtain ⟨z1, z2, z3⟩ := sh_some hs
      obtain ⟨lb, ld, hat, hbb, hdb⟩ := shp_spec hs
      have e1 : ((l.length : Int) - 1).toNat = l.length - 1 := by omega
      have hm := maxT_le (l := dp) (c := 12) (dp.length - 1)
      have hk : okE l = (decide (bg.getD (l.length - 1) 0 = 0) && decide (maxT dp (dp.length - 1) ≤ 12)) := by
        unfold okE; rw [hs, decide_eq_true (show 1 ≤ l.length ∧ l.length ≤ 60 from ⟨hn1, hn2⟩), Bool.true_and]
        show (decide (bg.getD (l.length - 1) 0 = 0) && decide (∀ t, t < l.length → dp.getD t 0 ≤ 12)) = _
        congr 1
        rw [decide_eq_decide, hm]
        exact ⟨fun g t ht => g t (by omega), fun g t ht => g t (by omega)⟩
      refine Den.pureI Tryz.func71 rfl 1 [.tmp 2] (by kernel_rfl) rfl rfl (by simp only [initE_nil, initE_cons, Nat.reduceAdd]; exact rfl) ?_
      repeat' first | (with_reducible first | refine nx' ?_ (by simp -implicitDefEqProofs (disch := omega) only [go_sem, z1, z2, z3, e1]; exact rfl) | refine n0 ?_ | refine rD ?_ | refine n1 ?_ | refine nilB_i fun b hb => ?_ | refine nP ?_ ?_ | refine nS fun K hK => ?_ | (refine n2 ?_ ?_ <;> intro h <;> first | subst (h : _ = true) | subst (h : _ = false) | (simp only [FX, LX, z1, z2, z3, e1] at h) | skip) | refine And.intro ?_ ?_ | refine nK ‹Imp _ _› ?_) | exact nl | fail
      all_goals (rw [hk])
      · rw [decide_eq_true h, Bool.true_and]
      · rw [decide_eq_false h, Bool.false_and]
  · have hk : okE l = false := by unfold okE; rw [decide_eq_false hn, Bool.false_and]
    refine Den.pureI Tryz.func71 rfl 1 [.tmp 2] (by kernel_rfl) rfl rfl (by simp only [initE_nil, initE_cons, Nat.reduceAdd]; exact rfl) ?_
    repeat' first | (with_reducible first | refine nx' ?_ | refine n0 ?_ | refine rD ?_ | refine n1 ?_ | refine nilB_i fun b hb => ?_ | refine nP ?_ ?_ | refine nS fun K hK => ?_ | (refine n2 ?_ ?_ <;> intro h <;> first | subst (h : _ = true) | subst (h : _ = false) | skip) | refine And.intro ?_ ?_ | refine nK ‹Imp _ _› ?_) | exact nl | fail
    all_goals (rw [hk])
/-- The reference's look at one node. -/
def l05N (x : Nd) (p : Int) : Bool :=
  if x.op < 1 ∨ 8 < x.op then false
  else if 3 ≤ x.op ∧ x.op ≤ 6 then decide (0 ≤ x.a ∧ x.a ≤ p - 1) && decide (x.a + 1 ≤ x.b ∧ x.b ≤ p - 1) && decide (x.n = 0)
  else if x.op = 7 ∨ x.op = 8 then decide (x.a = p - 1) && decide (0 < p) && decide (x.b = 0) && decide (0 ≤ x.n ∧ x.n ≤ if x.op = 8 then 8 else 0)
  else if x.op = 2 then decide (x.a = 0) && decide (x.b = 0) && decide (0 ≤ x.n ∧ x.n ≤ 3)
  else decide (x.a = 0) && decide (x.b = 0) && decide (0 ≤ x.n ∧ x.n ≤ 999999999)
end Go.PL
