/- A plain machine, sound for the given model, and contracts of functions over it, part 36: ED EE. Nothing is assumed. -/
import Derived.Test.YtgfncbcnplfpdabGreatDoorPBb
set_option linter.unusedSimpArgs false
set_option linter.unusedVariables false
set_option linter.unusedSectionVars false
/- ED -/
namespace Go.PL
open Go Go.Proofs
set_option maxRecDepth 10000
set_option linter.unusedSimpArgs false
set_option linter.unusedVariables false
/-- The greatest of a list. -/
def maxT (l : List Int) : Nat → Int
  | 0 => l.getD 0 0
  | k + 1 => max (maxT l k) (l.getD (k + 1) 0)
theorem maxT_le {l : List Int} {c : Int} : ∀ k, maxT l k ≤ c ↔ ∀ t, t ≤ k → l.getD t 0 ≤ c
  | 0 => ⟨fun h t ht => by obtain rfl : t = 0 := by omega
                           exact h, fun h => h 0 (Nat.le_refl _)⟩
  | k + 1 => by
    have ih := maxT_le (l := l) (c := c) k
    constructor
    · intro h t ht
      have h1 : maxT l k ≤ c := by unfold maxT at h; omega
      have h2 : l.getD (k + 1) 0 ≤ c := by unfold maxT at h; omega
      by_cases e : t = k + 1
      · rw [e]; exact h2
      · exact ih.1 h1 t (by omega)
    · intro h
      have h1 := ih.2 fun t ht => h t (by omega)
      have h2 := h (k + 1) (Nat.le_refl _)
      unfold maxT; omega
instance (l : List Int) : Con CC 68 [.d (.sl (l.map .i))] (1 ≤ l.length ∧ l.length ≤ 1048576) (.d (.i (maxT l (l.length - 1)))) := by
  constructor; intro ⟨h1, h2⟩
  refine Den.pureI Tryz.func68 rfl 1 [.tmp 2] (by kernel_rfl) rfl rfl (by simp only [initE_nil, initE_cons, Nat.reduceAdd]; exact rfl) ?_
  repeat' first | ((with_reducible first | refine wC ?_ | refine wC0 ?_); (first | with_reducible refine pN ?_ rfl ?_ | (refine pcDn ?_; first | with_reducible refine pN ?_ rfl ?_))) | (with_reducible refine nx ?_; simp -implicitDefEqProofs (disch := omega) only [go_sem]) | (with_reducible show Wp _ _ _ _ _ _; first | refine rR ?_ | refine Wp.skip ?_ | refine Wp.ret ?_ | refine Wp.exit ?_ | refine rD ?_ | refine Wp.label ?_ | refine wS fun K hK => ?_ | refine wB fun K hK => ?_ | refine wE ?_) | (with_reducible show _ ∧ _; (first | refine an ?_ | refine And.intro ?_ ?_)) | (with_reducible show bcase _ _ _; first | refine bcaseT ?_ | refine bcaseF ?_ | (refine bcase_s ?_ ?_ <;> intro h <;> (first | subst h | (try simp only [FX, LX] at h)))) | (with_reducible show gcase _ _ _ _; first | refine gcaseTT ?_ | refine gcaseTF ?_ | refine gcaseFT ?_ | refine gcaseFF ?_ | refine gcaseU ?_ | ((first | refine wGt ?_ ?_ | refine wGf ?_ ?_) <;> intro h <;> (first | subst h | (simp only [h]; (try simp only [FX, LX] at h))))) | ((with_reducible refine wCq ?_); (first | with_reducible refine pQ ?_ rfl (by first | exact .inl rfl | exact .inr rfl) ?_ | (refine pcDQn ?_; first | with_reducible refine pQ ?_ rfl (by first | exact .inl rfl | exact .inr rfl) ?_))) | (with_reducible first | refine wG ?_ | refine wGq ?_ | refine r1_append ?_ | refine nilB_pos (by omega) ?_ | refine nilB_i fun b hb => ?_) | (with_reducible refine Imp.out ‹Imp _ _› ?_; (try simp only [TX, Nat.reduceBEq])) | assumption | omega | exact trivial | (simp only [LX]; omega)
  refine Wp.loopR (fun k : Nat => ⟨[(0, .d (.sl (l.map .i))), (3, .d (.i (maxT l k))), (4, .d (.i ((k : Int) + 1)))], []⟩) (fun k => l.length - k) (fun k => k < l.length) 0 (Weak.low (by simp -implicitDefEqProofs (disch := omega) only [go_sem, sub_nil, sub_cons, LX, maxT]; try ((repeat' refine And.intro ?_ ?_) <;> first | rfl | trivial | (congr 3; omega) | (congr 1; omega)))) (by omega) ?_
  rintro k hk K hK
  have e : ((k : Int) + 1).toNat = k + 1 := by omega
  repeat' first | ((with_reducible first | refine wC ?_ | refine wC0 ?_); (first | with_reducible refine pN ?_ rfl ?_ | (refine pcDn ?_; first | with_reducible refine pN ?_ rfl ?_))) | (with_reducible refine nx ?_; simp -implicitDefEqProofs (disch := omega) only [go_sem, ite_max, e]) | (with_reducible show Wp _ _ _ _ _ _; first | refine rR ?_ | refine Wp.skip ?_ | refine Wp.ret ?_ | refine Wp.exit ?_ | refine rD ?_ | refine Wp.label ?_ | refine wS fun K hK => ?_ | refine wB fun K hK => ?_ | refine wE ?_) | (with_reducible show _ ∧ _; (first | refine an ?_ | refine And.intro ?_ ?_)) | (with_reducible show bcase _ _ _; first | refine bcaseT ?_ | refine bcaseF ?_ | (refine bcase_s ?_ ?_ <;> intro h <;> (first | subst h | (try simp only [FX, LX, ite_max, e] at h)))) | (with_reducible show gcase _ _ _ _; first | refine gcaseTT ?_ | refine gcaseTF ?_ | refine gcaseFT ?_ | refine gcaseFF ?_ | refine gcaseU ?_ | ((first | refine wGt ?_ ?_ | refine wGf ?_ ?_) <;> intro h <;> (first | subst h | (simp only [h]; (try simp only [FX, LX, ite_max, e] at h))))) | ((with_reducible refine wCq ?_); (first | with_reducible refine pQ ?_ rfl (by first | exact .inl rfl | exact .inr rfl) ?_ | (refine pcDQn ?_; first | with_reducible refine pQ ?_ rfl (by first | exact .inl rfl | exact .inr rfl) ?_))) | (with_reducible first | refine wG ?_ | refine wGq ?_ | refine r1_append ?_ | refine nilB_pos (by omega) ?_ | refine nilB_i fun b hb => ?_) | (with_reducible refine Imp.out ‹Imp _ _› ?_; (try simp only [TX, Nat.reduceBEq])) | assumption | omega | exact trivial | (simp only [LX]; omega)
  · exact ⟨k + 1, by omega, by omega, (Weak.low (by simp -implicitDefEqProofs (disch := omega) only [go_sem, sub_nil, sub_cons, LX, maxT, show (((k + 1 : Nat) : Int) + 1) = (k : Int) + 1 + 1 by omega]; try ((repeat' refine And.intro ?_ ?_) <;> first | rfl | trivial | (congr 3; omega) | (congr 1; omega))))⟩
  · obtain rfl : k = l.length - 1 := by omega
    rfl
instance (b : Bool) (c : Int) : Con CC 88 [.d (.b b), .d (.i c)] True (.d (.i (if b then 0 else c))) := by
  constructor; intro pre
  refine Den.pureI Tryz.func88 rfl 2 [.tmp 4] (by kernel_rfl) rfl rfl (by simp only [initE_nil, initE_cons, Nat.reduceAdd]; exact rfl) ?_
  repeat' first | ((with_reducible first | refine wC ?_ | refine wC0 ?_); (first | with_reducible refine pN ?_ rfl ?_ | (refine pcDn ?_; first | with_reducible refine pN ?_ rfl ?_))) | (with_reducible refine nx ?_; simp -implicitDefEqProofs (disch := omega) only [go_sem]) | (with_reducible show Wp _ _ _ _ _ _; first | refine rR ?_ | refine Wp.skip ?_ | refine Wp.ret ?_ | refine Wp.exit ?_ | refine rD ?_ | refine Wp.label ?_ | refine wS fun K hK => ?_ | refine wB fun K hK => ?_ | refine wE ?_) | (with_reducible show _ ∧ _; (first | refine an ?_ | refine And.intro ?_ ?_)) | (with_reducible show bcase _ _ _; first | refine bcaseT ?_ | refine bcaseF ?_ | (refine bcase_s ?_ ?_ <;> intro h <;> (first | subst h | (try simp only [FX, LX] at h)))) | (with_reducible show gcase _ _ _ _; first | refine gcaseTT ?_ | refine gcaseTF ?_ | refine gcaseFT ?_ | refine gcaseFF ?_ | refine gcaseU ?_ | ((first | refine wGt ?_ ?_ | refine wGf ?_ ?_) <;> intro h <;> (first | subst h | (simp only [h]; (try simp only [FX, LX] at h))))) | ((with_reducible refine wCq ?_); (first | with_reducible refine pQ ?_ rfl (by first | exact .inl rfl | exact .inr rfl) ?_ | (refine pcDQn ?_; first | with_reducible refine pQ ?_ rfl (by first | exact .inl rfl | exact .inr rfl) ?_))) | (with_reducible first | refine wG ?_ | refine wGq ?_ | refine r1_append ?_ | refine nilB_pos (by omega) ?_ | refine nilB_i fun b hb => ?_) | (with_reducible refine Imp.out ‹Imp _ _› ?_; (try simp only [TX, Nat.reduceBEq])) | assumption | omega | exact trivial | (simp only [LX]; omega)
instance (l : List Nd) : Con CC 40 [.d (.agg [.sl (l.map encNd)])] (l.length ≤ 1048576) (.d (.b (okE l))) := by
  constructor; intro hl
  by_cases hn : 1 ≤ l.length ∧ l.length ≤ 60
  · obtain ⟨hn1, hn2⟩ := hn
    cases hs : shp l l.length with
    | none =>
      obtain ⟨z1, z2, z3⟩ := sh_none hs
      have hk : okE l = false := by unfold okE; rw [hs]; simp
      refine Den.pureI Tryz.func40 rfl 1 [.tmp 2] (by kernel_rfl) rfl rfl (by simp only [initE_nil, initE_cons, Nat.reduceAdd]; exact rfl) ?_
      repeat' first | ((with_reducible first | refine wC ?_ | refine wC0 ?_); (first | with_reducible refine pN ?_ rfl ?_ | (refine pcDn ?_; first | with_reducible refine pN ?_ rfl ?_))) | (with_reducible refine nx ?_; simp -implicitDefEqProofs (disch := omega) only [go_sem, z1, z2, z3, List.map_nil]) | (with_reducible show Wp _ _ _ _ _ _; first | refine rR ?_ | refine Wp.skip ?_ | refine Wp.ret ?_ | refine Wp.exit ?_ | refine rD ?_ | refine Wp.label ?_ | refine wS fun K hK => ?_ | refine wB fun K hK => ?_ | refine wE ?_) | (with_reducible show _ ∧ _; (first | refine an ?_ | refine And.intro ?_ ?_)) | (with_reducible show bcase _ _ _; first | refine bcaseT ?_ | refine bcaseF ?_ | (refine bcase_s ?_ ?_ <;> intro h <;> (first | subst h | (try simp only [FX, LX, z1, z2, z3, List.map_nil] at h)))) | (with_reducible show gcase _ _ _ _; first | refine gcaseTT ?_ | refine gcaseTF ?_ | refine gcaseFT ?_ | refine gcaseFF ?_ | refine gcaseU ?_ | ((first | refine wGt ?_ ?_ | refine wGf ?_ ?_) <;> intro h <;> (first | subst h | (simp only [h]; (try simp only [FX, LX, z1, z2, z3, List.map_nil] at h))))) | ((with_reducible refine wCq ?_); (first | with_reducible refine pQ ?_ rfl (by first | exact .inl rfl | exact .inr rfl) ?_ | (refine pcDQn ?_; first | with_reducible refine pQ ?_ rfl (by first | exact .inl rfl | exact .inr rfl) ?_))) | (with_reducible first | refine wG ?_ | refine wGq ?_ | refine r1_append ?_ | refine nilB_pos (by omega) ?_ | refine nilB_i fun b hb => ?_) | (with_reducible refine Imp.out ‹Imp _ _› ?_; (try simp only [TX, Nat.reduceBEq])) | assumption | omega | exact trivial | (simp only [LX]; omega)
      all_goals (rw [hk])
    | some q =>
      obtain ⟨bg, dp⟩ := q
      obtain ⟨z1, z2, z3⟩ := sh_some hs
      obtain ⟨lb, ld, hat, hbb, hdb⟩ := shp_spec hs
      have e1 : ((l.length : Int) - 1).toNat = l.length - 1 := by omega
      have hm := maxT_le (l := dp) (c := 12) (dp.length - 1)
      have hk : okE l = (decide (bg.getD (l.length - 1) 0 = 0) && decide (maxT dp (dp.length - 1) ≤ 12)) := by
        unfold okE; rw [hs, decide_eq_true (show 1 ≤ l.length ∧ l.length ≤ 60 from ⟨hn1, hn2⟩), Bool.true_and]
        show (decide (bg.getD (l.length - 1) 0 = 0) && decide (∀ t, t < l.length → dp.getD t 0 ≤ 12)) = _
        congr 1
        rw [decide_eq_decide, hm]
        exact ⟨fun g t ht => g t (by omega), fun g t ht => g t (by omega)⟩
      refine Den.pureI Tryz.func40 rfl 1 [.tmp 2] (by kernel_rfl) rfl rfl (by simp only [initE_nil, initE_cons, Nat.reduceAdd]; exact rfl) ?_
      repeat' first | ((with_reducible first | refine wC ?_ | refine wC0 ?_); (first | with_reducible refine pN ?_ rfl ?_ | (refine pcDn ?_; first | with_reducible refine pN ?_ rfl ?_))) | (with_reducible refine nx ?_; simp -implicitDefEqProofs (disch := omega) only [go_sem, z1, z2, z3, e1]) | (with_reducible show Wp _ _ _ _ _ _; first | refine rR ?_ | refine Wp.skip ?_ | refine Wp.ret ?_ | refine Wp.exit ?_ | refine rD ?_ | refine Wp.label ?_ | refine wS fun K hK => ?_ | refine wB fun K hK => ?_ | refine wE ?_) | (with_reducible show _ ∧ _; (first | refine an ?_ | refine And.intro ?_ ?_)) | (with_reducible show bcase _ _ _; first | refine bcaseT ?_ | refine bcaseF ?_ | (refine bcase_s ?_ ?_ <;> intro h <;> (first | subst h | (try simp only [FX, LX, z1, z2, z3, e1] at h)))) | (with_reducible show gcase _ _ _ _; first | refine gcaseTT ?_ | refine gcaseTF ?_ | refine gcaseFT ?_ | refine gcaseFF ?_ | refine gcaseU ?_ | ((first | refine wGt ?_ ?_ | refine wGf ?_ ?_) <;> intro h <;> (first | subst h | (simp only [h]; (try simp only [FX, LX, z1, z2, z3, e1] at h))))) | ((with_reducible refine wCq ?_); (first | with_reducible refine pQ ?_ rfl (by first | exact .inl rfl | exact .inr rfl) ?_ | (refine pcDQn ?_; first | with_reducible refine pQ ?_ rfl (by first | exact .inl rfl | exact .inr rfl) ?_))) | (with_reducible first | refine wG ?_ | refine wGq ?_ | refine r1_append ?_ | refine nilB_pos (by omega) ?_ | refine nilB_i fun b hb => ?_) | (with_reducible refine Imp.out ‹Imp _ _› ?_; (try simp only [TX, Nat.reduceBEq])) | assumption | omega | exact trivial | (simp only [LX]; omega)
      all_goals (rw [hk])
      · rw [decide_eq_true h, Bool.true_and]
      · rw [decide_eq_false h, Bool.false_and]
  · have hk : okE l = false := by unfold okE; rw [decide_eq_false hn, Bool.false_and]
    refine Den.pureI Tryz.func40 rfl 1 [.tmp 2] (by kernel_rfl) rfl rfl (by simp only [initE_nil, initE_cons, Nat.reduceAdd]; exact rfl) ?_
    repeat' first | ((with_reducible first | refine wC ?_ | refine wC0 ?_); (first | with_reducible refine pN ?_ rfl ?_ | (refine pcDn ?_; first | with_reducible refine pN ?_ rfl ?_))) | (with_reducible refine nx ?_; simp -implicitDefEqProofs (disch := omega) only [go_sem]) | (with_reducible show Wp _ _ _ _ _ _; first | refine rR ?_ | refine Wp.skip ?_ | refine Wp.ret ?_ | refine Wp.exit ?_ | refine rD ?_ | refine Wp.label ?_ | refine wS fun K hK => ?_ | refine wB fun K hK => ?_ | refine wE ?_) | (with_reducible show _ ∧ _; (first | refine an ?_ | refine And.intro ?_ ?_)) | (with_reducible show bcase _ _ _; first | refine bcaseT ?_ | refine bcaseF ?_ | (refine bcase_s ?_ ?_ <;> intro h <;> (first | subst h | (try simp only [FX, LX] at h)))) | (with_reducible show gcase _ _ _ _; first | refine gcaseTT ?_ | refine gcaseTF ?_ | refine gcaseFT ?_ | refine gcaseFF ?_ | refine gcaseU ?_ | ((first | refine wGt ?_ ?_ | refine wGf ?_ ?_) <;> intro h <;> (first | subst h | (simp only [h]; (try simp only [FX, LX] at h))))) | ((with_reducible refine wCq ?_); (first | with_reducible refine pQ ?_ rfl (by first | exact .inl rfl | exact .inr rfl) ?_ | (refine pcDQn ?_; first | with_reducible refine pQ ?_ rfl (by first | exact .inl rfl | exact .inr rfl) ?_))) | (with_reducible first | refine wG ?_ | refine wGq ?_ | refine r1_append ?_ | refine nilB_pos (by omega) ?_ | refine nilB_i fun b hb => ?_) | (with_reducible refine Imp.out ‹Imp _ _› ?_; (try simp only [TX, Nat.reduceBEq])) | assumption | omega | exact trivial | (simp only [LX]; omega)
    all_goals (rw [hk])
/-- The reference's look at one node. -/
def l05N (x : Nd) (p : Int) : Bool :=
  if x.op < 1 ∨ 8 < x.op then false
  else if 3 ≤ x.op ∧ x.op ≤ 6 then decide (0 ≤ x.a ∧ x.a ≤ p - 1) && decide (x.a + 1 ≤ x.b ∧ x.b ≤ p - 1) && decide (x.n = 0)
  else if x.op = 7 ∨ x.op = 8 then decide (x.a = p - 1) && decide (0 < p) && decide (x.b = 0) && decide (0 ≤ x.n ∧ x.n ≤ if x.op = 8 then 8 else 0)
  else if x.op = 2 then decide (x.a = 0) && decide (x.b = 0) && decide (0 ≤ x.n ∧ x.n ≤ 3)
  else decide (x.a = 0) && decide (x.b = 0) && decide (0 ≤ x.n ∧ x.n ≤ 999999999)
end Go.PL

/- EE -/
namespace Go.PL
open Go Go.Proofs
set_option maxRecDepth 10000
set_option linter.unusedSimpArgs false
set_option linter.unusedVariables false
set_option maxHeartbeats 4000000 in
instance (o a b n p : Int) : Con CC 54 [.d (.agg [.i o, .i a, .i b, .i n]), .d (.i p)] (0 ≤ p ∧ p ≤ 1048576) (.d (.b (l05N ⟨o, a, b, n⟩ p))) := by
  constructor; intro ⟨hp1, hp2⟩
  refine Den.pureI Tryz.func54 rfl 2 [.tmp 4] (by kernel_rfl) rfl rfl (by simp only [initE_nil, initE_cons, Nat.reduceAdd]; exact rfl) ?_
  repeat' first | ((with_reducible first | refine wC ?_ | refine wC0 ?_); (first | with_reducible refine pN ?_ rfl ?_ | (refine pcDn ?_; first | with_reducible refine pN ?_ rfl ?_))) | (with_reducible refine nx ?_; simp -implicitDefEqProofs (disch := omega) only [go_sem]) | (with_reducible show Wp _ _ _ _ _ _; first | refine rR ?_ | refine Wp.skip ?_ | refine Wp.ret ?_ | refine Wp.exit ?_ | refine Wp.drawR (by decide +kernel) ?_ | refine Wp.drawSR [20, 21, 22, 23, 24] [false, false, false, false, false, false, false, false, false, false, false, false, false, false, false, false, false, false, false, false, true, true, true, true, true] (.op 20 [15,16] (.op 21 [15,16] (.op 22 [] (.op 23 [] (.op 24 [] .done))))) (by decide +kernel) ?_ | refine Wp.label ?_ | refine wS fun K hK => ?_ | refine wB fun K hK => ?_ | refine wE ?_) | (with_reducible show _ ∧ _; (first | refine an ?_ | refine And.intro ?_ ?_)) | (with_reducible show bcase _ _ _; first | refine bcaseT ?_ | refine bcaseF ?_ | (refine bcase_s ?_ ?_ <;> intro h <;> (first | subst h | (try simp only [FX, LX] at h)))) | (with_reducible show gcase _ _ _ _; first | refine gcaseTT ?_ | refine gcaseTF ?_ | refine gcaseFT ?_ | refine gcaseFF ?_ | refine gcaseU ?_ | ((first | refine wGt ?_ ?_ | refine wGf ?_ ?_) <;> intro h <;> (first | subst h | (simp only [h]; (try simp only [FX, LX] at h))))) | ((with_reducible refine wCq ?_); (first | with_reducible refine pQ ?_ rfl (by first | exact .inl rfl | exact .inr rfl) ?_ | (refine pcDQn ?_; first | with_reducible refine pQ ?_ rfl (by first | exact .inl rfl | exact .inr rfl) ?_))) | (with_reducible first | refine wG ?_ | refine wGq ?_ | refine r1_append ?_ | refine nilB_pos (by omega) ?_ | refine nilB_i fun b hb => ?_ | refine wGqA ?_ | refine wGl ?_ | refine wGt2 ?_) | ((with_reducible first | show qA _ _ _ _ _ _ | show lateR _ _ _ _ _ _ | show trR _ _ _ _ _ _); simp -implicitDefEqProofs (disch := omega) only [go_sem]) | (with_reducible refine Imp.out ‹Imp _ _› ?_; (try simp only [TX, Nat.reduceBEq])) | assumption | omega | exact trivial | (simp only [LX]; omega)
  all_goals (congr 3; first | (simp [l05N, *, beq_dec]; done) | (simp [l05N, *, beq_dec]; omega) | (rw [Bool.eq_iff_iff]; unfold l05N; simp only [beq_iff_eq]; (repeat' split) <;> simp only [Bool.and_eq_true, decide_eq_true_eq, Bool.false_eq_true, false_iff, iff_false] <;> omega))
end Go.PL
