/- A plain machine, sound for the given model, and contracts of functions over it, part 23: A7. Nothing is assumed. -/
import Derived.Test.YtfdjgoapdkpbaaaPlBack
import Derived.Test.YtfdjgoapdkpbaaaA6
import Derived.Test.YtfdjgoapdkpbaaaG22
set_option linter.unusedSimpArgs false
set_option linter.unusedVariables false
set_option linter.unusedSectionVars false
/- A7 -/
namespace Go.PL
open Go Go.Proofs
set_option maxRecDepth 10000
set_option maxHeartbeats 4000000
set_option linter.unusedSimpArgs false
set_option linter.unusedVariables false
instance (a : List Int) : Con CC 75 [.d (encD a)] True (.d (.fn (.func 79) [] [.ptr [encD a]])) := by
  constructor; intro pre
  refine Den.pureI Try.func75 rfl 1 [.tmp 2] (by kernel_rfl) rfl rfl (by simp only [initE_nil, initE_cons, Nat.reduceAdd]; exact rfl) ?_
  repeat' first | (with_reducible first | refine nx' ?_ | refine n0 ?_ | refine rD ?_ | refine n1 ?_ | refine nilB_i fun b hb => ?_ | refine nP ?_ ?_ | refine nS fun K hK => ?_ | (refine n2 ?_ ?_ <;> intro h <;> first | subst (h : _ = true) | subst (h : _ = false) | skip) | refine And.intro ?_ ?_ | refine nK ‹Imp _ _› ?_) | exact nl | fail
instance (m n : Nat) : Con CC 64 [.d (encD (digs m)), .d (encD (digs n))] ((digs m).length < 1048576 ∧ (digs n).length < 1048576) (.d (.i (cmpN m n))) := by
  constructor; intro ⟨hm, hn⟩
  generalize ha : digs m = a at *
  generalize hb : digs n = b at *
  refine Den.pureI Try.func64 rfl 2 [.cell 4 3] (by kernel_rfl) rfl rfl (by simp only [initE_nil, initE_cons, Nat.reduceAdd]; exact rfl) ?_
  repeat' first | (with_reducible first | refine nx' ?_ | refine n0 ?_ | refine rD ?_ | refine n1 ?_ | refine nilB_i fun b hb => ?_ | refine nP ?_ ?_ | refine nS fun K hK => ?_ | (refine n2 ?_ ?_ <;> intro h <;> first | subst (h : _ = true) | subst (h : _ = false) | skip) | refine And.intro ?_ ?_ | refine nK ‹Imp _ _› ?_) | exact nl | fail
  · congr 3
    subst ha hb
    rw [cmpN_len (by omega), if_neg (by omega)]
  · congr 3
    subst ha hb
    rw [cmpN_len (by omega), if_pos (by omega)]
  · refine Wp.rangeR 79 a (fun k => [.var [.d (encD b)] false, .var [.d (.i 0)] false]) (fun k => a.drop k = b.drop k) (fun os => os = [.var [.d (encD b)] false, .var [.d (.i (cmpN m n))] false])
      (fun k => [(3, .ref 0 0 0), (4, .ref 1 0 0), (5, .d (.i k)), (6, .d (.i (a.getD k 0)))]) 2 rfl rfl rfl (by omega) (by omega) rfl rfl (by rw [List.drop_of_length_le (by omega), List.drop_of_length_le (by omega)]) ?_ ?_ ?_ ?_
    · intro k hk hJ K hK
      repeat' first | (with_reducible first | refine nx' ?_ | refine n0 ?_ | refine rD ?_ | refine n1 ?_ | refine nilB_i fun b hb => ?_ | refine nP ?_ ?_ | refine nS fun K hK => ?_ | (refine n2 ?_ ?_ <;> intro h <;> first | subst (h : _ = true) | subst (h : _ = false) | skip) | refine And.intro ?_ ?_ | refine nK ‹Imp _ _› ?_) | exact nl | fail
      exact Weak.lo
    · intro k hk hJ K hK Kx hKx
      repeat' first | (with_reducible first | refine nx' ?_ | refine n0 ?_ | refine rD ?_ | refine n1 ?_ | refine nilB_i fun b hb => ?_ | refine nP ?_ ?_ | refine nS fun K hK => ?_ | (refine n2 ?_ ?_ <;> intro h <;> first | subst (h : _ = true) | subst (h : _ = false) | skip) | refine And.intro ?_ ?_ | refine nK ‹Imp _ _› ?_) | exact nl | fail
      · refine ⟨_, rfl, ?_⟩
        have e : cmpN m n = -1 := by subst ha hb; exact cmpN_lt (by omega) (by omega) hJ (by omega)
        rw [e]; exact Weak.lo
      · refine ⟨_, rfl, ?_⟩
        have e : cmpN m n = 1 := by subst ha hb; exact cmpN_gt (by omega) (by omega) hJ (by omega)
        rw [e]; exact Weak.lo
      · exact drop_eq (by omega) (by omega) hJ (by assumption)
      · exact Weak.lo
    · intro hJ
      simp -implicitDefEqProofs (disch := omega) only [go_sem]
      repeat' first | (with_reducible first | refine nx' ?_ | refine n0 ?_ | refine rD ?_ | refine n1 ?_ | refine nilB_i fun b hb => ?_ | refine nP ?_ ?_ | refine nS fun K hK => ?_ | (refine n2 ?_ ?_ <;> intro h <;> first | subst (h : _ = true) | subst (h : _ = false) | skip) | refine And.intro ?_ ?_ | refine nK ‹Imp _ _› ?_) | exact nl | fail
      congr 3
      rw [List.drop_zero, List.drop_zero, ← ha, ← hb] at hJ
      have := digs_inj hJ
      unfold cmpN; rw [if_neg (by omega), if_pos this]
    · rintro os rfl
      simp -implicitDefEqProofs (disch := omega) only [go_sem]
      repeat' first | (with_reducible first | refine nx' ?_ | refine n0 ?_ | refine rD ?_ | refine n1 ?_ | refine nilB_i fun b hb => ?_ | refine nP ?_ ?_ | refine nS fun K hK => ?_ | (refine n2 ?_ ?_ <;> intro h <;> first | subst (h : _ = true) | subst (h : _ = false) | skip) | refine And.intro ?_ ?_ | refine nK ‹Imp _ _› ?_) | exact nl | fail
end Go.PL
