/- A plain machine, sound for the given model, and contracts of functions over it, part 35: BO6. Nothing is assumed. -/
import Derived.Test.YtfdjgoapdkpbaaaG34
set_option linter.unusedSimpArgs false
set_option linter.unusedVariables false
set_option linter.unusedSectionVars false
/- BO6 -/
namespace Go.PL
open Go Go.Proofs
set_option maxRecDepth 10000
set_option maxHeartbeats 4000000
set_option linter.unusedSimpArgs false
set_option linter.unusedVariables false
set_option maxHeartbeats 4000000 in
theorem law_a (a : Int) (l : List Rc) (hp : pRcs l) (h1 : ¬ szL 1048576 (szRcs l) < 0) (hb : bRcs l) (ho : okRp ⟨a, l⟩ = true) (h0 : 0 < l.length) (it ct : Int) (x : List Rt) (g : Bool) (u v : List Int) (hr : l.getD (l.length - 1) rc0 = ⟨it, ct, x, ⟨g, u, v⟩⟩) (hu : u = []) : CC 3 [.d (.agg [.i a, .sl (l.map encRc)])] [] (.d (.b true)) [] := by
  obtain ⟨q1, q2⟩ := szL_of (left := 1048576) (n := szRcs l) (by omega)
  have hq := sumC_le l
  have ht := toRep_t a l hb
  obtain ⟨w1, w2⟩ := best_1 ho h0
  rw [hr] at w1
  have hg := best_t a l hb ho h0 _ hr
  have hrm : (⟨it, ct, x, ⟨g, u, v⟩⟩ : Rc) ∈ l := by rw [← hr]; exact getD_mem rc0 (by omega)
  obtain ⟨b0, b1, b2⟩ := hb.2 _ hrm
  have hbR : bRc ⟨it, ct, x, ⟨g, u, v⟩⟩ := ⟨b0, b1, b2⟩
  have hkr := okRc_parts ((okRp_recs ho).2 _ hrm)
  obtain ⟨k1, k2, k3⟩ := okRat_len hkr.2.2
  simp only at *
  have hcx : sumOf cR x ≤ 400 := by
    rw [szV_cR]
    exact szV_small (by omega) fun q hq => ⟨(okRat_len (hkr.2.1 q hq)).1, (okRat_len (hkr.2.1 q hq)).2.1⟩
  subst hu
  have hg : CC 7 [.d (.agg [.i a, .sl (l.map encRc)])] [] (.tup [.agg [.d (.i it), .d (.i ct), .msl 0 0 x.length, .d (.b g), .d (.sl (([] : List Int).map .i)), .msl 2 0 v.length], .d (.i 0)]) [.tree 3 ((x.map encR).map .d), .dead, .arr 1 (v.map .i) false] := hg
  have hm := markRep_c [.var [.d (.i a), .d (.sl (l.map encRc))] false, .arr 6 (l.map encRc) true, .var [.d (.i it), .d (.i ct), .d (.sl (x.map encR)), .d (.b g), .d (encD ([] : List Int)), .d (encD v)] false, (.tree 6 ((l.map encRc).map .d)), .var [.d (.i a), .msl 3 0 l.length] false, (.tree 3 ((x.map encR).map .d)), .dead, (.arr 1 (v.map .i) false), .var [.d (.i it), .d (.i ct), .msl 5 0 x.length, .d (.b g), .d (.sl (([] : List Int).map .i)), .msl 7 0 v.length] false, (.tree 6 ((l.map encRc).map .d))] 3 l.length a 1 l (by simp) (by simp only [List.all_cons, List.all_nil, tree_bnd, arr_bnd, Bool.and_true]; rfl) rfl hb (by omega)
  have hm2 := markRec_u [.var [.d (.i a), .d (.sl (l.map encRc))] false, .arr 6 (l.map encRc) true, .var [.d (.i it), .d (.i ct), .d (.sl (x.map encR)), .d (.b g), .d (encD ([] : List Int)), .d (encD v)] false, (.tree 6 (((mkCs 1 l).map encRc).map .d)), .var [.d (.i a), .msl 3 0 l.length] false, (.tree 3 ((x.map encR).map .d)), .dead, (.arr 1 (v.map .i) false), .var [.d (.i it), .d (.i ct), .msl 5 0 x.length, .d (.b g), .d (.sl (([] : List Int).map .i)), .msl 7 0 v.length] false, (.tree 6 ((l.map encRc).map .d))] 5 6 7 1 it ct x g ([] : List Int) v (by simp) (by simp) (by simp) (by omega) (by omega) (by omega) (by simp only [List.all_cons, List.all_nil, tree_bnd, arr_bnd, Bool.and_true]; rfl) b0 (by first | omega | simp) (by omega) k3 (by omega)
  have e2 : ∀ q, uV q ([] : List Int).length = .d (.sl (([] : List Int).map .i)) := fun q => rfl
  have e3 : uA 1 (([] : List Int).map .i) = .dead := rfl
  have e4 : uA 1 ((mkL (1 + sumOf cR x) ([] : List Int).length).map .i) = .dead := rfl
  rw [e2, e3, e4] at hm2
  simp only [List.set_cons_succ, List.set_cons_zero] at hm hm2
  have bm : bV (mkRs 1 x) := mkRs_bV b0
  have hh : CC 12 [.d (.agg [.i it, .i ct, .sl ((mkRs 1 x).map encR), .b g, encD (mkL (1 + sumOf cR x) ([] : List Int).length), encD (mkL (1 + sumOf cR x + ([] : List Int).length) v.length)]), .d (.i 1)] [] (.d (.i (1 + sumOf cR x + ([] : List Int).length + v.length))) [] := by
    have := Con.ok (C := CC) (n := 12) (vs := [.d (.agg [.i it, .i ct, .sl ((mkRs 1 x).map encR), .b g, encD (mkL (1 + sumOf cR x) ([] : List Int).length), encD (mkL (1 + sumOf cR x + ([] : List Int).length) v.length)]), .d (.i 1)])
      ⟨bm, by rw [mkL_len]; first | omega | simp, by rw [mkL_len]; omega, by omega, by rw [mkL_len, mkL_len, mkRs_sum]; first | omega | (simp; omega), ⟨x, rfl⟩, by rw [mkL_len, mkRs_sum], by rw [mkL_len, mkL_len, mkRs_sum]⟩
    rw [mkL_len, mkL_len, mkRs_sum] at this
    exact this
  have tk1 : (mkRs 1 x).take x.length = mkRs 1 x := List.take_of_length_le (by rw [mkRs_len]; exact Nat.le_refl _)
  have tk2 : ∀ k, (mkL k ([] : List Int).length).take ([] : List Int).length = mkL k ([] : List Int).length := fun k => List.take_of_length_le (by rw [mkL_len]; exact Nat.le_refl _)
  have tk3 : ∀ k, (mkL k v.length).take v.length = mkL k v.length := fun k => List.take_of_length_le (by rw [mkL_len]; exact Nat.le_refl _)
  refine Den.pureI Try.func3 rfl 1 [.tmp 2] (by kernel_rfl) rfl rfl (by simp only [initE_nil, initE_cons, Nat.reduceAdd]; exact rfl) ?_
  repeat' first | (with_reducible first | refine nx' ?_ (by simp -implicitDefEqProofs (disch := omega) only [go_sem, ho, w1, w2, tk1, tk2, tk3, mkL_len, mkRs_len]; exact rfl) | refine n0 ?_ | refine Wp.drawSR [2, 3, 4] [false, false, true, true, true] (.op 2 [0] (.op 3 [] (.op 4 [] .done))) (by decide +kernel) ?_ | refine Wp.drawR (by decide +kernel) ?_ | refine n1 ?_ | refine nilB_i fun b hb => ?_ | refine nPt (ht) ?_ | refine nPt (hg) ?_ | refine nPm (hm) ?_ | refine nPm (hm2) ?_ | refine nPc (hh) ?_ | refine nP ?_ ?_ | refine nS fun K hK => ?_ | (refine n2 ?_ ?_ <;> intro h <;> first | subst (h : _ = true) | subst (h : _ = false) | (simp only [FX, LX, ho, w1, w2, tk1, tk2, tk3, mkL_len, mkRs_len] at h) | skip) | refine And.intro ?_ ?_ | refine nK ‹Imp _ _› ?_) | exact nl | fail
  all_goals first
    | exact absurd trivial ‹¬True›
    | exact hbR
    | (rw [tk1]; exact bm)
    | exact ⟨x, tk1⟩
    | rfl
    | (simp only [tk1, tk2, tk3, mkRs_sum, mkL_len]; done)
    | (simp only [tk1, tk2, tk3, mkRs_sum, mkL_len]; omega)
    | (simp only [tk1, tk2, tk3, mkRs_sum, mkL_len]; rfl)
    | (simp only [tk1, tk2, tk3, mkRs_sum, mkL_len]; simp; omega)
    | (exfalso; have := mkRs_sum (k := 1) (l := x); omega)
    | skip
end Go.PL
