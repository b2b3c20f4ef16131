/- A plain machine, sound for the given model, and contracts of functions over it, part 34: RM3. Nothing is assumed. -/
import Derived.Test.YtedbifiejciocadGreatDoorRM2
set_option linter.unusedSimpArgs false
set_option linter.unusedVariables false
set_option linter.unusedSectionVars false
/- RM3 -/
namespace Go.PL
open Go Go.Proofs
set_option maxRecDepth 10000
set_option maxHeartbeats 4000000
set_option linter.unusedSimpArgs false
set_option linter.unusedVariables false
/-- Marks. -/
def mkL (k : Int) (n : Nat) : List Int := (List.range n).map fun i : Nat => k + (i : Int)
theorem mkL_len (k : Int) (n : Nat) : (mkL k n).length = n := by simp [mkL]
theorem mkL_succ (k : Int) (n : Nat) : mkL k (n + 1) = mkL k n ++ [k + (n : Int)] := by simp [mkL, List.range_succ]
theorem mkL_get {k : Int} {n i : Nat} (h : i < n) : (mkL k n).getD i 0 = k + (i : Int) := by simp [mkL, List.getD, h]
theorem mkL_set {k : Int} {es : List Int} {i : Nat} (h : i < es.length) : (mkL k i ++ es.drop i).set i (k + (i : Int)) = mkL k (i + 1) ++ es.drop (i + 1) := by
  rw [List.set_append_right _ _ (by rw [mkL_len]; exact Nat.le_refl _), mkL_len, Nat.sub_self, List.drop_eq_getElem_cons h, List.set_cons_zero, mkL_succ]; simp
theorem all_set {n : Nat} {os : List Ob} {o : Nat} {X : Ob} (h : os.all (Ob.bnd n) = true) (hx : Ob.bnd n X = true) : (os.set o X).all (Ob.bnd n) = true := by
  rw [List.all_eq_true] at h ⊢
  intro y hy
  rcases List.mem_or_eq_of_mem_set hy with h1 | h1
  · exact h y h1
  · rw [h1]; exact hx
theorem markInts_c (os : List Ob) (o n : Nat) (k : Int) (es : List Int) (ho : o < os.length) (hb : os.all (Ob.bnd os.length) = true) (hn : n ≤ es.length) (hl : es.length ≤ 1048576) (hk : 0 ≤ k ∧ k ≤ 1000000000) :
    CC 14 [.msl o 0 n, .d (.i k)] (os.set o (.arr 1 (es.map .i) false)) (.d (.i (k + n))) (os.set o (.arr 1 ((mkL k n ++ es.drop n).map .i) false)) := by
  have hg : ∀ X, (os.set o X)[o]? = some X := fun X => by rw [List.getElem?_set_self ho]
  have hs : ∀ X Y, (os.set o X).set o Y = os.set o Y := fun X Y => by simp
  refine Den.newG (vs := [.d (.i (k + n))]) Tryz.func14 rfl 2 os.length [.tmp 4] (by kernel_rfl) rfl rfl (by simp only [initE_nil, initE_cons, Nat.reduceAdd]; exact rfl) rfl (by simp) (by simp) rfl (by rw [List.length_set]; exact all_set hb rfl) ?_
  repeat' first | (with_reducible first | refine nx' ?_ | refine n0 ?_ | refine rD ?_ | refine n1 ?_ | refine nilB_i fun b hb => ?_ | refine nP ?_ ?_ | refine nS fun K hK => ?_ | (refine n2 ?_ ?_ <;> intro h <;> first | subst (h : _ = true) | subst (h : _ = false) | skip) | refine And.intro ?_ ?_ | refine nK ‹Imp _ _› ?_) | exact nl | fail
  refine Wp.loopR (fun i : Nat => ⟨[(0, .msl o 0 n), (1, .d (.i (k + i))), (5, .d (.i i))], os.set o (.arr 1 ((mkL k i ++ es.drop i).map .i) false)⟩) (fun i => n - i) (fun i => i ≤ n) 0 (Weak.low (by simp -implicitDefEqProofs (disch := omega) only [go_sem, sub_nil, sub_cons, LX, Int.natCast_zero, Int.add_zero, show mkL k 0 = [] from rfl]; try ((repeat' refine And.intro ?_ ?_) <;> first | rfl | trivial | (congr 3; omega) | (congr 1; omega)))) (by omega) ?_
  rintro i hi K hK
  have hln : (mkL k i ++ es.drop i).length = es.length := by rw [List.length_append, mkL_len, List.length_drop]; omega
  by_cases h : i < n
  · have hms := mkL_set (k := k) (es := es) (i := i) (by omega)
    repeat' first | (with_reducible first | refine nx' ?_ (by simp -implicitDefEqProofs (disch := omega) only [go_sem, hg, hs, hln, hms]; exact rfl) | refine n0 ?_ | refine rD ?_ | refine n1 ?_ | refine nilB_i fun b hb => ?_ | refine nP ?_ ?_ | refine nS fun K hK => ?_ | (refine n2 ?_ ?_ <;> intro h <;> first | subst (h : _ = true) | subst (h : _ = false) | (simp only [FX, LX, hg, hs, hln, hms] at h) | skip) | refine And.intro ?_ ?_ | refine nK ‹Imp _ _› ?_) | exact nl | fail
    all_goals first
      | exact ⟨i + 1, by omega, by omega, (Weak.low (by simp -implicitDefEqProofs (disch := omega) only [go_sem, sub_nil, sub_cons, LX, show k + ((i + 1 : Nat) : Int) = k + (i : Int) + 1 by omega]; try ((repeat' refine And.intro ?_ ?_) <;> first | rfl | trivial | (congr 3; omega) | (congr 1; omega))))⟩
      | skip
  · obtain rfl : i = n := by omega
    repeat' first | (with_reducible first | refine nx' ?_ (by simp -implicitDefEqProofs (disch := omega) only [go_sem, hg, hs]; exact rfl) | refine n0 ?_ | refine rD ?_ | refine n1 ?_ | refine nilB_i fun b hb => ?_ | refine nP ?_ ?_ | refine nS fun K hK => ?_ | (refine n2 ?_ ?_ <;> intro h <;> first | subst (h : _ = true) | subst (h : _ = false) | (simp only [FX, LX, hg, hs] at h) | skip) | refine And.intro ?_ ?_ | refine nK ‹Imp _ _› ?_) | exact nl | fail
    exact finG_of [(4, .d (.i (k + i)))] [] (by rw [List.append_nil]; exact Weak.lo)
instance (l : List Int) (k : Int) : Con CC 15 [.d (.sl (l.map .i)), .d (.i k)] (l.length ≤ 1048576 ∧ 0 ≤ k ∧ k ≤ 1000000000 ∧ l = mkL k l.length) (.d (.i (k + l.length))) := by
  constructor; intro ⟨hl, h0, h1, he⟩
  refine Den.pureI Tryz.func15 rfl 2 [.tmp 4] (by kernel_rfl) rfl rfl (by simp only [initE_nil, initE_cons, Nat.reduceAdd]; exact rfl) ?_
  repeat' first | (with_reducible first | refine nx' ?_ | refine n0 ?_ | refine rD ?_ | refine n1 ?_ | refine nilB_i fun b hb => ?_ | refine nP ?_ ?_ | refine nS fun K hK => ?_ | (refine n2 ?_ ?_ <;> intro h <;> first | subst (h : _ = true) | subst (h : _ = false) | skip) | refine And.intro ?_ ?_ | refine nK ‹Imp _ _› ?_) | exact nl | fail
  refine Wp.loopR (fun i : Nat => ⟨[(0, .d (.sl (l.map .i))), (1, .d (.i (k + i))), (5, .d (.i i))], []⟩) (fun i => l.length - i) (fun i => i ≤ l.length) 0 (Weak.low (by simp -implicitDefEqProofs (disch := omega) only [go_sem, sub_nil, sub_cons, LX, Int.natCast_zero, Int.add_zero]; try ((repeat' refine And.intro ?_ ?_) <;> first | rfl | trivial | (congr 3; omega) | (congr 1; omega)))) (by omega) ?_
  rintro i hi K hK
  by_cases h : i < l.length
  · have hg : l.getD i 0 = k + (i : Int) := by rw [he]; exact mkL_get h
    repeat' first | (with_reducible first | refine nx' ?_ (by simp -implicitDefEqProofs (disch := omega) only [go_sem, hg]; exact rfl) | refine n0 ?_ | refine rD ?_ | refine n1 ?_ | refine nilB_i fun b hb => ?_ | refine nP ?_ ?_ | refine nS fun K hK => ?_ | (refine n2 ?_ ?_ <;> intro h <;> first | subst (h : _ = true) | subst (h : _ = false) | (simp only [FX, LX, hg] at h) | skip) | refine And.intro ?_ ?_ | refine nK ‹Imp _ _› ?_) | exact nl | fail
    all_goals first
      | exact ⟨i + 1, by omega, by omega, (Weak.low (by simp -implicitDefEqProofs (disch := omega) only [go_sem, sub_nil, sub_cons, LX, show k + ((i + 1 : Nat) : Int) = k + (i : Int) + 1 by omega]; try ((repeat' refine And.intro ?_ ?_) <;> first | rfl | trivial | (congr 3; omega) | (congr 1; omega))))⟩
      | (exfalso; omega)
      | skip
  · obtain rfl : i = l.length := by omega
    repeat' first | (with_reducible first | refine nx' ?_ | refine n0 ?_ | refine rD ?_ | refine n1 ?_ | refine nilB_i fun b hb => ?_ | refine nP ?_ ?_ | refine nS fun K hK => ?_ | (refine n2 ?_ ?_ <;> intro h <;> first | subst (h : _ = true) | subst (h : _ = false) | skip) | refine And.intro ?_ ?_ | refine nK ‹Imp _ _› ?_) | exact nl | fail
instance (b : Bool) (u v : List Int) (k : Int) : Con CC 8 [.d (.agg [.b b, encD u, encD v]), .d (.i k)] (u.length ≤ 1000000 ∧ v.length ≤ 1000000 ∧ 0 ≤ k ∧ k ≤ 1000000 ∧ u = mkL k u.length ∧ v = mkL (k + u.length) v.length) (.d (.i (k + u.length + v.length))) := by
  constructor; intro ⟨h1, h2, h3, h4, h5, h6⟩
  refine Den.pureI Tryz.func8 rfl 2 [.tmp 4] (by kernel_rfl) rfl rfl (by simp only [initE_nil, initE_cons, Nat.reduceAdd]; exact rfl) ?_
  repeat' first | (with_reducible first | refine nx' ?_ | refine n0 ?_ | refine rD ?_ | refine n1 ?_ | refine nilB_i fun b hb => ?_ | refine nP ?_ ?_ | refine nS fun K hK => ?_ | (refine n2 ?_ ?_ <;> intro h <;> first | subst (h : _ = true) | subst (h : _ = false) | skip) | refine And.intro ?_ ?_ | refine nK ‹Imp _ _› ?_) | exact nl | fail
  all_goals first | omega | (exfalso; omega) | skip
end Go.PL
