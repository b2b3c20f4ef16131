/- A plain machine, sound for the given model, and contracts of functions over it, part 32: TM2. Nothing is assumed. -/
import Derived.Test.YtfdjgoapdkpbaaaAD
import Derived.Test.YtfdjgoapdkpbaaaG31
set_option linter.unusedSimpArgs false
set_option linter.unusedVariables false
set_option linter.unusedSectionVars false
/- TM2 -/
namespace Go.PL
open Go Go.Proofs
set_option maxRecDepth 10000
set_option maxHeartbeats 4000000
set_option linter.unusedSimpArgs false
set_option linter.unusedVariables false
theorem markRNil_c (os : List Ob) (k : Int) (hb : os.all (Ob.bnd os.length) = true) (hk : 0 ≤ k ∧ k ≤ 1000000000) :
    CC 26 [.d (.sl []), .d (.i k)] os (.d (.i k)) os := by
  refine Den.newG (vs := [.d (.i k)]) Try.func26 rfl 2 os.length [.tmp 4] (by kernel_rfl) rfl rfl (by simp only [initE_nil, initE_cons, Nat.reduceAdd]; exact rfl) rfl rfl (Nat.le_refl _) rfl hb ?_
  repeat' first | (with_reducible first | refine nx' ?_ | refine n0 ?_ | refine rD ?_ | refine n1 ?_ | refine nilB_i fun b hb => ?_ | refine nP ?_ ?_ | refine nS fun K hK => ?_ | (refine n2 ?_ ?_ <;> intro h <;> first | subst (h : _ = true) | subst (h : _ = false) | skip) | refine And.intro ?_ ?_ | refine nK ‹Imp _ _› ?_) | exact nl | fail
  refine Wp.loopR (fun i : Nat => ⟨[(0, .d (.sl [])), (1, .d (.i k)), (5, .d (.i 0))], os⟩) (fun i => i) (fun i => True) 0 Weak.lo trivial ?_
  rintro i hi K hK
  repeat' first | (with_reducible first | refine nx' ?_ | refine n0 ?_ | refine rD ?_ | refine n1 ?_ | refine nilB_i fun b hb => ?_ | refine nP ?_ ?_ | refine nS fun K hK => ?_ | (refine n2 ?_ ?_ <;> intro h <;> first | subst (h : _ = true) | subst (h : _ = false) | skip) | refine And.intro ?_ ?_ | refine nK ‹Imp _ _› ?_) | exact nl | fail
  exact finG_of [(4, .d (.i k))] [] (by rw [List.append_nil]; exact Weak.lo)
theorem markRats_u (os : List Ob) (o n : Nat) (k : Int) (l : List Rt) (ho : o < os.length) (hb : os.all (Ob.bnd os.length) = true) (hn : n = l.length) (hl : bV l) (hk : 0 ≤ k ∧ k + sumOf cR l ≤ 1000000000) :
    CC 26 [uV o n, .d (.i k)] (os.set o (uT 3 (l.map encR))) (.d (.i (k + sumOf cR l))) (os.set o (uT 3 ((mkRs k l).map encR))) := by
  subst hn
  by_cases h0 : l.length = 0
  · have e : l = [] := List.eq_nil_of_length_eq_zero h0
    subst e
    have := markRNil_c (os.set o .dead) k (by rw [List.length_set]; exact all_set' hb rfl) (by simp [sumOf] at hk; omega)
    simpa [uV, uT, mkRs, sumOf] using this
  · have := markRats_c os o l.length k l ho hb rfl hl hk
    rw [uV_pos h0, uT_pos (by simpa using h0), uT_pos (by simpa [mkRs_len] using h0)]
    exact this
/-- How many marks a record takes in a list, and what it is then. -/
def mkC (k : Int) (r : Rc) : Rc := ⟨k, k + 1, mkRs (k + 2) r.x, ⟨(k + 2 + sumOf cR r.x) % 3 == 0, mkL (k + 2 + sumOf cR r.x + 1) r.f.num.length, mkL (k + 2 + sumOf cR r.x + 1 + r.f.num.length) r.f.den.length⟩⟩
def cC (r : Rc) : Nat := 3 + sumOf cR r.x + szR r.f
def mkCs : Int → List Rc → List Rc
  | _, [] => []
  | k, r :: l => mkC k r :: mkCs (k + cC r) l
theorem mkCs_len : ∀ (k : Int) (l : List Rc), (mkCs k l).length = l.length
  | _, [] => rfl
  | k, r :: l => by simp [mkCs, mkCs_len]
theorem mkCs_app : ∀ (k : Int) (a b : List Rc), mkCs k (a ++ b) = mkCs k a ++ mkCs (k + sumOf cC a) b
  | k, [], b => by simp [mkCs, sumOf]
  | k, r :: a, b => by simp [mkCs, mkCs_app, sumOf, Int.add_assoc]
/-- A list of which the first ones are marked. -/
def mkPreC (k : Int) (l : List Rc) (i : Nat) : List Rc := mkCs k (l.take i) ++ l.drop i
theorem mkPreC_len {k : Int} {l : List Rc} {i : Nat} : (mkPreC k l i).length = l.length := by simp [mkPreC, mkCs_len]; omega
theorem mkPreC_get {k : Int} {l : List Rc} {i : Nat} (h : i < l.length) : (mkPreC k l i)[i]? = some (l.getD i rc0) := by
  rw [mkPreC, List.getElem?_append_right (by simp [mkCs_len]; omega), mkCs_len]
  simp [List.getElem?_drop, List.getD, h, Nat.min_eq_left (Nat.le_of_lt h)]
theorem mkPreC_set {k : Int} {l : List Rc} {i : Nat} (h : i < l.length) : (mkPreC k l i).set i (mkC (k + sumOf cC (l.take i)) (l.getD i rc0)) = mkPreC k l (i + 1) := by
  have hl : (mkCs k (l.take i)).length = i := by simp [mkCs_len]; omega
  rw [mkPreC, List.set_append_right _ _ (by omega), hl, Nat.sub_self, List.drop_eq_getElem_cons h, List.set_cons_zero, mkPreC, take_succD rc0 h, mkCs_app]
  simp [mkCs]
theorem mkPreC_zero {k : Int} {l : List Rc} : mkPreC k l 0 = l := by simp [mkPreC, mkCs]
theorem mkPreC_all {k : Int} {l : List Rc} : mkPreC k l l.length = mkCs k l := by simp [mkPreC]
theorem encR_cells {l : List Rt} : ∀ z ∈ l.map encR, z.cells.length = 3 := by intro z hz; obtain ⟨r, _, rfl⟩ := List.mem_map.1 hz; rfl
set_option maxHeartbeats 2000000 in
theorem markRecs_c (os : List Ob) (o n : Nat) (k : Int) (l : List Rc) (ho : o < os.length) (hb : os.all (Ob.bnd os.length) = true) (hn : n = l.length) (hl : bRcs l) (hk : 0 ≤ k ∧ k + sumOf cC l ≤ 1000000000) :
    CC 25 [.msl o 0 n, .d (.i k)] (os.set o (.tree 6 ((l.map encRc).map .d))) (.d (.i (k + sumOf cC l))) (os.set o (.tree 6 (((mkCs k l).map encRc).map .d))) := by
  subst hn
  have hl0 := hl.1
  haveI : Fr os o := ⟨ho, hb⟩
  refine Den.newG (vs := [.d (.i (k + sumOf cC l))]) Try.func25 rfl 2 os.length [.tmp 4] (by kernel_rfl) rfl rfl (by simp only [initE_nil, initE_cons, Nat.reduceAdd]; exact rfl) rfl (by simp) (by simp) rfl (by rw [List.length_set]; exact all_set' hb tree_bnd) ?_
  repeat' first | (with_reducible first | refine nx' ?_ | refine n0 ?_ | refine rD ?_ | refine n1 ?_ | refine nilB_i fun b hb => ?_ | refine nP ?_ ?_ | refine nS fun K hK => ?_ | (refine n2 ?_ ?_ <;> intro h <;> first | subst (h : _ = true) | subst (h : _ = false) | skip) | refine And.intro ?_ ?_ | refine nK ‹Imp _ _› ?_) | exact nl | fail
  refine Wp.loopR (fun i : Nat => ⟨[(0, .msl o 0 l.length), (1, .d (.i (k + sumOf cC (l.take i)))), (5, .d (.i i))], os.set o (.tree 6 (((mkPreC k l i).map encRc).map .d))⟩) (fun i => l.length - i) (fun i => i ≤ l.length) 0 (Weak.low (by simp -implicitDefEqProofs (disch := omega) only [go_sem, sub_nil, sub_cons, LX, mkPreC_zero, List.take_zero, sumOf, Int.natCast_zero, Int.add_zero]; try ((repeat' refine And.intro ?_ ?_) <;> first | rfl | trivial | (congr 3; omega) | (congr 1; omega)))) (by omega) ?_
  rintro i hi K hK
  by_cases h : i < l.length
  · have hs := sumOf_succ (f := cC) rc0 h
    have hle := sumOf_le (f := cC) l (i + 1)
    obtain ⟨hq0, hq1, hq2⟩ := hl.2 _ (getD_mem rc0 h)
    generalize hr : l.getD i rc0 = r at *
    have hg := mkPreC_get (k := k) h
    have hst := mkPreC_set (k := k) h
    rw [hr] at hg hst
    have hlen : ((mkPreC k l i).map encRc).length = l.length := by rw [List.length_map, mkPreC_len]
    have hx : ((mkPreC k l i).map encRc)[i]? = some (.agg [.i r.iter, .i r.count, .sl (r.x.map encR), .b r.f.neg, .sl (r.f.num.map .i), .sl (r.f.den.map .i)]) := by rw [List.getElem?_map, hg]; rfl
    generalize hds : (mkPreC k l i).map encRc = ds at *
    have hi' : i < ds.length := by omega
    have hcr : cC r = 3 + sumOf cR r.x + r.f.num.length + r.f.den.length := by simp [cC, szR]; omega
    generalize hkk : k + (sumOf cC (l.take i) : Int) = kk at *
    generalize hcx : sumOf cR r.x = cx at *
    have hk1 : 0 ≤ kk ∧ kk + 3 + cx + r.f.num.length + r.f.den.length ≤ 1000000000 := by omega
    have w0 := Weak.openC (nF := os.length) (env := [(0, .msl o 0 l.length), (1, .d (.i kk)), (5, .d (.i i))]) ho encR_cells hx
    rw [List.length_map] at w0
    refine .weak w0 ?_
    have m0 := markRats_u (os.set o (.tree 6 ((ds.map .d).set i (.agg [.d (.i kk), .d (.i (kk + 1)), uV os.length r.x.length, .d (.b r.f.neg), uV (os.length + 1) r.f.num.length, uV (os.length + 2) r.f.den.length]))) ++ [uT 3 (r.x.map encR), uA 1 (r.f.num.map .i), uA 1 (r.f.den.map .i)]) os.length r.x.length (kk + 2) r.x (by simp) (all_tree hb (by simp [bnd1_d, uV_bnd]) (by simp [uA_bnd, uT_bnd])) rfl hq0 (by omega)
    have m1 := markInts_u (os.set o (.tree 6 ((ds.map .d).set i (.agg [.d (.i kk), .d (.i (kk + 1)), uV os.length r.x.length, .d (.b ((kk + 2 + cx) % 3 == 0)), uV (os.length + 1) r.f.num.length, uV (os.length + 2) r.f.den.length]))) ++ [uT 3 ((mkRs (kk + 2) r.x).map encR), uA 1 (r.f.num.map .i), uA 1 (r.f.den.map .i)]) (os.length + 1) r.f.num.length (kk + 2 + cx + 1) r.f.num (by simp) (all_tree hb (by simp [bnd1_d, uV_bnd]) (by simp [uA_bnd, uT_bnd])) rfl hq1 (by omega)
    have m2 := markInts_u (os.set o (.tree 6 ((ds.map .d).set i (.agg [.d (.i kk), .d (.i (kk + 1)), uV os.length r.x.length, .d (.b ((kk + 2 + cx) % 3 == 0)), uV (os.length + 1) r.f.num.length, uV (os.length + 2) r.f.den.length]))) ++ [uT 3 ((mkRs (kk + 2) r.x).map encR), uA 1 ((mkL (kk + 2 + cx + 1) r.f.num.length).map .i), uA 1 (r.f.den.map .i)]) (os.length + 2) r.f.den.length (kk + 2 + cx + 1 + r.f.num.length) r.f.den (by simp) (all_tree hb (by simp [bnd1_d, uV_bnd]) (by simp [uA_bnd, uT_bnd])) rfl hq2 (by omega)
    rw [hcx] at m0
    simp only [ft0, ft1, List.set_cons_zero, List.set_cons_succ] at m0 m1 m2
    have a1 : kk + 1 + 1 = kk + 2 := by omega
    repeat' first | (with_reducible first | refine nx' ?_ (by simp -implicitDefEqProofs (disch := omega) only [go_sem, a1]; exact rfl) | refine n0 ?_ | refine rD ?_ | refine n1 ?_ | refine nilB_i fun b hb => ?_ | refine nPm (m0) ?_ | refine nPm (m1) ?_ | refine nPm (m2) ?_ | refine nP ?_ ?_ | refine nS fun K hK => ?_ | (refine n2 ?_ ?_ <;> intro h <;> first | subst (h : _ = true) | subst (h : _ = false) | (simp only [FX, LX, a1] at h) | skip) | refine And.intro ?_ ?_ | refine nK ‹Imp _ _› ?_) | exact nl | fail
    · refine ⟨i + 1, by omega, by omega, ?_⟩
      have e : (mkPreC k l (i + 1)).map encRc = ds.set i (.agg [.i kk, .i (kk + 1), .sl ((mkRs (kk + 2) r.x).map encR), .b ((kk + 2 + cx) % 3 == 0), .sl ((mkL (kk + 2 + cx + 1) r.f.num.length).map .i), .sl ((mkL (kk + 2 + cx + 1 + r.f.num.length) r.f.den.length).map .i)]) := by
        rw [← hst, List.map_set, hds, ← hcx]; rfl
      have e2 : k + (sumOf cC (l.take (i + 1)) : Int) = kk + 2 + cx + 1 + r.f.num.length + r.f.den.length := by omega
      rw [e, e2]
      exact Weak.shutC ho hi' (by simp [mkRs_len]) (mkL_len _ _).symm (mkL_len _ _).symm (Nat.le_refl _) hb (by (simp -implicitDefEqProofs (disch := omega) only [go_sem, sub_nil, sub_cons, LX]; try ((repeat' refine And.intro ?_ ?_) <;> first | rfl | trivial | (congr 3; omega) | (congr 1; omega)))) (by simp [V.bnd, V.bnd1, Nat.blt_eq, ho])
  · obtain rfl : i = l.length := by omega
    repeat' first | (with_reducible first | refine nx' ?_ | refine n0 ?_ | refine rD ?_ | refine n1 ?_ | refine nilB_i fun b hb => ?_ | refine nP ?_ ?_ | refine nS fun K hK => ?_ | (refine n2 ?_ ?_ <;> intro h <;> first | subst (h : _ = true) | subst (h : _ = false) | skip) | refine And.intro ?_ ?_ | refine nK ‹Imp _ _› ?_) | exact nl | fail
    exact finG_of [(4, .d (.i (k + sumOf cC l)))] [] (by rw [List.append_nil, mkPreC_all]; exact Weak.lo)
end Go.PL
