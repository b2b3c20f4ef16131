/- A plain machine, sound for the given model, and contracts of functions over it, part 36: PT1. Nothing is assumed. -/
import Derived.Test.YtapgbbaefieibacGreatDoorG30
import Derived.Test.YtapgbbaefieibacGreatDoorPBb
set_option linter.unusedSimpArgs false
set_option linter.unusedVariables false
set_option linter.unusedSectionVars false
/- PT1 -/
namespace Go.PL
open Go Go.Proofs
set_option maxRecDepth 10000
set_option maxHeartbeats 4000000
set_option linter.unusedSimpArgs false
set_option linter.unusedVariables false
def mkN (k : Int) : Nd := ⟨k, k + 1, k + 2, k + 3⟩
def mkNs (k : Int) (n : Nat) : List Nd := (List.range n).map fun i : Nat => mkN (k + 4 * (i : Int))
theorem mkNs_len (k : Int) (n : Nat) : (mkNs k n).length = n := by simp [mkNs]
theorem mkNs_succ (k : Int) (n : Nat) : mkNs k (n + 1) = mkNs k n ++ [mkN (k + 4 * (n : Int))] := by simp [mkNs, List.range_succ]
theorem mkNs_set {k : Int} {es : List Nd} {i : Nat} (h : i < es.length) : (mkNs k i ++ es.drop i).set i (mkN (k + 4 * (i : Int))) = mkNs k (i + 1) ++ es.drop (i + 1) := by
  rw [List.set_append_right _ _ (by rw [mkNs_len]; exact Nat.le_refl _), mkNs_len, Nat.sub_self, List.drop_eq_getElem_cons h, List.set_cons_zero, mkNs_succ]; simp
set_option maxHeartbeats 1000000 in
theorem markNds_c (os : List Ob) (o n : Nat) (k : Int) (es : List Nd) (ho : o < os.length) (hb : os.all (Ob.bnd os.length) = true) (hn : n ≤ es.length) (hl : es.length ≤ 1048576) (hk : 0 ≤ k ∧ k ≤ 900000000) :
    CC 56 [.msl o 0 n, .d (.i k)] (os.set o (.arr 4 (es.map encNd) false)) (.d (.i (k + 4 * (n : Int)))) (os.set o (.arr 4 ((mkNs k n ++ es.drop n).map encNd) false)) := by
  have hg : ∀ X, (os.set o X)[o]? = some X := fun X => by rw [List.getElem?_set_self ho]
  have hs : ∀ X Y, (os.set o X).set o Y = os.set o Y := fun X Y => by simp
  refine Den.newG (vs := [.d (.i (k + 4 * (n : Int)))]) Tryz.func56 rfl 2 os.length [.tmp 4] (by kernel_rfl) rfl rfl (by simp only [initE_nil, initE_cons, Nat.reduceAdd]; exact rfl) rfl (by simp) (by simp) rfl (by rw [List.length_set]; exact all_set' hb rfl) ?_
  repeat' first | (with_reducible first | refine nx' ?_ | refine n0 ?_ | refine rD ?_ | refine n1 ?_ | refine nilB_i fun b hb => ?_ | refine nP ?_ ?_ | refine nS fun K hK => ?_ | (refine n2 ?_ ?_ <;> intro h <;> first | subst (h : _ = true) | subst (h : _ = false) | skip) | refine And.intro ?_ ?_ | refine nK ‹Imp _ _› ?_) | exact nl | fail
  refine Wp.loopR (fun i : Nat => ⟨[(0, .msl o 0 n), (1, .d (.i (k + 4 * (i : Int)))), (5, .d (.i i))], os.set o (.arr 4 ((mkNs k i ++ es.drop i).map encNd) false)⟩) (fun i => n - i) (fun i => i ≤ n) 0 (Weak.low (by simp -implicitDefEqProofs (disch := omega) only [go_sem, sub_nil, sub_cons, LX, Int.natCast_zero, Int.mul_zero, Int.add_zero, show mkNs k 0 = [] from rfl]; try ((repeat' refine And.intro ?_ ?_) <;> first | rfl | trivial | (congr 3; omega) | (congr 1; omega)))) (by omega) ?_
  rintro i hi K hK
  have hln : (mkNs k i ++ es.drop i).length = es.length := by rw [List.length_append, mkNs_len, List.length_drop]; omega
  by_cases h : i < n
  · have hms := mkNs_set (k := k) (es := es) (i := i) (by omega)
    generalize hL : mkNs k i ++ es.drop i = L at *
    have hA : ∀ x : Nd, (L.set i x).getD i nd0 = x := fun x => by simp [List.getD, hln, show i < es.length by omega]
    have hB : ∀ x y : Nd, (L.set i x).set i y = L.set i y := fun x y => by simp
    have hC : ∀ x : Nd, (L.set i x).length = es.length := fun x => by simp [hln]
    have a2 : k + 4 * (i : Int) + 1 + 1 = k + 4 * i + 2 := by omega
    have a3 : k + 4 * (i : Int) + 2 + 1 = k + 4 * i + 3 := by omega
    have hmk : L.set i (Nd.mk (k + 4 * i) (k + 4 * i + 1) (k + 4 * i + 2) (k + 4 * i + 3)) = mkNs k (i + 1) ++ es.drop (i + 1) := hms
    repeat' first | (with_reducible first | refine nx' ?_ (by simp -implicitDefEqProofs (disch := omega) only [go_sem, hg, hs, hln, hA, hB, hC, a2, a3, hmk]; exact rfl) | refine n0 ?_ | refine rD ?_ | refine n1 ?_ | refine nilB_i fun b hb => ?_ | refine nP ?_ ?_ | refine nS fun K hK => ?_ | (refine n2 ?_ ?_ <;> intro h <;> first | subst (h : _ = true) | subst (h : _ = false) | (simp only [FX, LX, hg, hs, hln, hA, hB, hC, a2, a3, hmk] at h) | skip) | refine And.intro ?_ ?_ | refine nK ‹Imp _ _› ?_) | exact nl | fail
    all_goals first
      | exact ⟨i + 1, by omega, by omega, (Weak.low (by simp -implicitDefEqProofs (disch := omega) only [go_sem, sub_nil, sub_cons, LX, show k + 4 * ((i + 1 : Nat) : Int) = k + 4 * (i : Int) + 3 + 1 by omega]; try ((repeat' refine And.intro ?_ ?_) <;> first | rfl | trivial | (congr 3; omega) | (congr 1; omega))))⟩
      | skip
  · obtain rfl : i = n := by omega
    repeat' first | (with_reducible first | refine nx' ?_ (by simp -implicitDefEqProofs (disch := omega) only [go_sem, hg, hs]; exact rfl) | refine n0 ?_ | refine rD ?_ | refine n1 ?_ | refine nilB_i fun b hb => ?_ | refine nP ?_ ?_ | refine nS fun K hK => ?_ | (refine n2 ?_ ?_ <;> intro h <;> first | subst (h : _ = true) | subst (h : _ = false) | (simp only [FX, LX, hg, hs] at h) | skip) | refine And.intro ?_ ?_ | refine nK ‹Imp _ _› ?_) | exact nl | fail
    exact finG_of [(4, .d (.i (k + 4 * (i : Int))))] [] (by rw [List.append_nil]; exact Weak.lo)
theorem toNds_n (l : List Nd) (hl0 : l.length ≤ 1048576) : CC 45 [.d (.sl (l.map encNd))] [] (.msl 0 0 l.length) [.arr 4 (l.map encNd) false] := by
  refine Den.newG (vs := [.msl 0 0 l.length]) Tryz.func45 rfl 1 0 [.tmp 2] (by kernel_rfl) rfl rfl (by simp only [initE_nil, initE_cons, Nat.reduceAdd]; exact rfl) rfl rfl (by simp) rfl (by first | rfl | simp only [List.all_cons, List.all_nil, tree_bnd, arr_bnd, Bool.and_true]) ?_
  repeat' first | (with_reducible first | refine nx' ?_ | refine n0 ?_ | refine rD ?_ | refine n1 ?_ | refine nilB_i fun b hb => ?_ | refine nP ?_ ?_ | refine nS fun K hK => ?_ | (refine n2 ?_ ?_ <;> intro h <;> first | subst (h : _ = true) | subst (h : _ = false) | skip) | refine And.intro ?_ ?_ | refine nK ‹Imp _ _› ?_) | exact nl | fail
  refine Wp.loopR (fun x : Nat × List Nd => ⟨[(0, .d (.sl (l.map encNd))), (3, .msl 0 0 x.2.length), (4, .d (.i x.1))], [.arr 4 (x.2.map encNd) false]⟩) (fun x => l.length - x.1) (fun x => x.1 ≤ l.length ∧ x.2.length = l.length ∧ x.2.take x.1 = l.take x.1) (0, List.replicate l.length nd0)
    (Weak.rep1 (f := encNd) (z := nd0) rfl Weak.lo) ⟨by simp, by simp, by simp⟩ ?_
  rintro ⟨i, o⟩ ⟨hi, hl, hd⟩ K hK
  simp only at hi hl hd ⊢
  repeat' first | (with_reducible first | refine nx' ?_ | refine n0 ?_ | refine rD ?_ | refine n1 ?_ | refine nilB_i fun b hb => ?_ | refine nP ?_ ?_ | refine nS fun K hK => ?_ | (refine n2 ?_ ?_ <;> intro h <;> first | subst (h : _ = true) | subst (h : _ = false) | skip) | refine And.intro ?_ ?_ | refine nK ‹Imp _ _› ?_) | exact nl | fail
  · exact ⟨(i + 1, o.set i (l.getD i nd0)), by simp only; omega, ⟨by simp only; omega, by simp [hl], take_set_succ _ (by omega) hl hd⟩, Weak.lo⟩
  · have e := take_all hl (by omega) hd
    subst e
    exact finG_of [(2, .msl 0 0 o.length)] [] Weak.lo
theorem toEx_n (l : List Nd) (hl0 : l.length ≤ 1048576) : CC 18 [.d (.agg [.sl (l.map encNd)])] [] (.agg [.msl 0 0 l.length]) [.arr 4 (l.map encNd) false] := by
  have c := toNds_n l hl0
  refine Den.newG (vs := [.agg [.msl 0 0 l.length]]) Tryz.func18 rfl 1 0 [.cell 2 37] (by kernel_rfl) rfl rfl (by simp only [initE_nil, initE_cons, Nat.reduceAdd]; exact rfl) rfl rfl (by simp) rfl (by first | rfl | simp only [List.all_cons, List.all_nil, tree_bnd, arr_bnd, Bool.and_true]) ?_
  repeat' first | (with_reducible first | refine nx' ?_ | refine n0 ?_ | refine rD ?_ | refine n1 ?_ | refine nilB_i fun b hb => ?_ | refine nPn (c) ?_ | refine nP ?_ ?_ | refine nS fun K hK => ?_ | (refine n2 ?_ ?_ <;> intro h <;> first | subst (h : _ = true) | subst (h : _ = false) | skip) | refine And.intro ?_ ?_ | refine nK ‹Imp _ _› ?_) | exact nl | fail
  exact finG_of [(2, .ref 1 0 0)] _ (Weak.perm [3, 1, 2, 0] rfl rfl Weak.lo)
theorem asD_pb {n0 n1 n2 n3 n4 n5 : Nat} {so g it ba : D} {F S L W U V : List D} {tl : List Ob} : asD (.arr 4 F false :: .tree 3 (S.map .d) :: .tree 3 (L.map .d) :: .tree 3 (W.map .d) :: .arr 1 U false :: .arr 1 V false :: tl) (.agg [.msl 0 0 n0, .msl 1 0 n1, .msl 2 0 n2, .msl 3 0 n3, .d so, .d g, .msl 4 0 n4, .msl 5 0 n5, .d it, .d ba]) = .agg [.msl 0 0 n0, .msl 1 0 n1, .msl 2 0 n2, .msl 3 0 n3, .d so, .d g, .msl 4 0 n4, .msl 5 0 n5, .d it, .d ba] := by
  simp only [asD, leaf, leaf1, mapL, leaf0, List.getElem?_cons_zero, List.getElem?_cons_succ, allD_map, List.nil_append, List.append_nil, List.cons_append]
  simp only [List.all_cons, frozen, List.getElem?_cons_zero, Bool.false_and, cond_false]
set_option maxHeartbeats 2000000 in
theorem toPb_t (f : List Nd) (s l w : List Rt) (so : Int) (g : Bool) (u v : List Int) (it ba : Int) (hb : bPb ⟨f, s, l, w, so, ⟨g, u, v⟩, it, ba⟩) : CC 6 [.d (pbD f s l w so g u v it ba)] []
    (.agg [.msl 0 0 f.length, .msl 1 0 s.length, .msl 2 0 l.length, .msl 3 0 w.length, .d (.i so), .d (.b g), .msl 4 0 u.length, .msl 5 0 v.length, .d (.i it), .d (.i ba)])
    [.arr 4 (f.map encNd) false, .tree 3 ((s.map encR).map .d), .tree 3 ((l.map encR).map .d), .tree 3 ((w.map encR).map .d), .arr 1 (u.map .i) false, .arr 1 (v.map .i) false] := by
  obtain ⟨h1, h2, h3, h4, h5⟩ := hb
  simp only at h1 h2 h3 h4 h5
  have c1 := toEx_n f h1
  have c2 := toRats_t s h2
  have c3 := toRats_t l h3
  have c4 := toRats_t w h4
  have c5 := toRat_n ⟨g, u, v⟩ h5
  refine Den.newG (vs := [.agg [.msl 0 0 f.length, .msl 1 0 s.length, .msl 2 0 l.length, .msl 3 0 w.length, .d (.i so), .d (.b g), .msl 4 0 u.length, .msl 5 0 v.length, .d (.i it), .d (.i ba)]]) Tryz.func6 rfl 1 0 [.cell 2 41] (by kernel_rfl) rfl rfl (by simp only [initE_nil, initE_cons, Nat.reduceAdd]; exact rfl) rfl rfl (by simp) rfl (by first | rfl | simp only [List.all_cons, List.all_nil, tree_bnd, arr_bnd, Bool.and_true]) ?_
  repeat' first | (with_reducible first | refine nx' ?_ | refine n0 ?_ | refine rD ?_ | refine n1 ?_ | refine nilB_i fun b hb => ?_ | refine nPn (c1) ?_ | refine nPt (c2) ?_ | refine nPt (c3) ?_ | refine nPt (c4) ?_ | refine nPn (c5) ?_ | refine nP ?_ ?_ | refine nS fun K hK => ?_ | (refine n2 ?_ ?_ <;> intro h <;> first | subst (h : _ = true) | subst (h : _ = false) | skip) | refine And.intro ?_ ?_ | refine nK ‹Imp _ _› ?_) | exact nl | fail
  exact finG_of [(2, .ref 7 0 0)] [.var [.msl 0 0 f.length, .msl 1 0 s.length, .msl 2 0 l.length, .msl 3 0 w.length, .d (.i so), .d (.b g), .msl 4 0 u.length, .msl 5 0 v.length, .d (.i it), .d (.i ba)] false, .var [.msl 0 0 f.length, .msl 1 0 s.length, .msl 2 0 l.length, .msl 3 0 w.length, .d (.i so), .d (.b g), .msl 4 0 u.length, .msl 5 0 v.length, .d (.i it), .d (.i ba)] false, .var [.d (.sl (f.map encNd)), .d (.sl (s.map encR)), .d (.sl (l.map encR)), .d (.sl (w.map encR)), .d (.i so), .d (.b g), .d (.sl (u.map .i)), .d (.sl (v.map .i)), .d (.i it), .d (.i ba)] false]
    (Weak.perm [8, 7, 6, 5, 4, 3, 2, 1, 0] rfl rfl (by simp -implicitDefEqProofs (disch := omega) only [go_sem]; exact Weak.perm [5, 4, 3, 2, 1, 0, 6, 7, 8] rfl rfl (by simp -implicitDefEqProofs (disch := omega) only [go_sem]; exact Weak.lo))) rfl (by simp only [List.map_cons, List.map_nil, List.cons_append, List.nil_append]; rw [asD_pb])
theorem markEx_c (os : List Ob) (o n : Nat) (k : Int) (es : List Nd) (ho : o < os.length) (hb : os.all (Ob.bnd os.length) = true) (hn : n = es.length) (hl : es.length ≤ 1048576) (hk : 0 ≤ k ∧ k ≤ 900000000) :
    CC 26 [.agg [.msl o 0 n], .d (.i k)] (os.set o (.arr 4 (es.map encNd) false)) (.d (.i (k + 4 * (n : Int)))) (os.set o (.arr 4 ((mkNs k n).map encNd) false)) := by
  haveI : Fr os o := ⟨ho, hb⟩
  have hm := markNds_c (os ++ [.var [.msl o 0 n] false]) o n k es (by simp; omega) (by
    rw [List.length_append, List.all_append, Bool.and_eq_true]
    refine ⟨all_mono (fun _ => Ob.bnd_mono (by omega)) hb, ?_⟩
    simp [Ob.bnd, V.bnd, V.bnd1, Nat.blt_eq]; omega) (by omega) hl hk
  rw [List.set_append_left _ _ ho, List.set_append_left _ _ ho] at hm
  subst hn
  rw [List.drop_length, List.append_nil] at hm
  refine Den.newG (vs := [.d (.i (k + 4 * (es.length : Int)))]) Tryz.func26 rfl 2 os.length [.tmp 4] (by kernel_rfl) rfl rfl (by simp only [initE_nil, initE_cons, Nat.reduceAdd]; exact rfl) rfl (by simp) (by simp) rfl (by rw [List.length_set]; exact all_set' hb rfl) ?_
  repeat' first | (with_reducible first | refine nx' ?_ | refine n0 ?_ | refine rD ?_ | refine n1 ?_ | refine nilB_i fun b hb => ?_ | refine nPm (hm) ?_ | refine nP ?_ ?_ | refine nS fun K hK => ?_ | (refine n2 ?_ ?_ <;> intro h <;> first | subst (h : _ = true) | subst (h : _ = false) | skip) | refine And.intro ?_ ?_ | refine nK ‹Imp _ _› ?_) | exact nl | fail
  exact finG_of [(4, .d (.i (k + 4 * (es.length : Int))))] [.var [.msl o 0 es.length] false] Weak.lo
end Go.PL
