/- A plain machine, sound for the given model, and contracts of functions over it, part 41: XJ4. Nothing is assumed. -/
import Derived.Test.YtldgmfplnlnhcaaGreatXJ3
set_option linter.unusedSimpArgs false
set_option linter.unusedVariables false
set_option linter.unusedSectionVars false
/- XJ4 -/
namespace Go.PL
open Go Go.Proofs
set_option maxRecDepth 10000
set_option maxHeartbeats 4000000
set_option linter.unusedSimpArgs false
set_option linter.unusedVariables false
theorem zerosI_new (n : Nat) (hn : n ≤ 1000) : CC 182 [.d (.i n)] [] (.msl 0 0 n) [.arr 3 ((alongX n fun _ => 0).map encX) false] := by
  refine Den.newG (vs := [.msl 0 0 n]) Tryz.func182 rfl 1 0 [.tmp 2] (by kernel_rfl) rfl rfl (by simp only [initE_nil, initE_cons, Nat.reduceAdd]; exact rfl) rfl rfl (by simp) rfl rfl ?_
  repeat' first | (with_reducible first | refine nx' ?_ | refine n0 ?_ | refine rD ?_ | refine n1 ?_ | refine nilB_i fun b hb => ?_ | refine nP ?_ ?_ | refine nS fun K hK => ?_ | (refine n2 ?_ ?_ <;> intro h <;> first | subst (h : _ = true) | subst (h : _ = false) | skip) | refine And.intro ?_ ?_ | refine nK ‹Imp _ _› ?_) | exact nl | fail
  refine Wp.loopR (fun i : Nat => ⟨[(5, .d (.i n)), (3, .msl 0 0 i), (6, .d (.i i))], [.arr 3 ((alongX i fun _ => 0).map encX) false]⟩) (fun i => n - i) (fun i => i ≤ n) 0 Weak.lo (by simp) ?_
  rintro i hi K hK
  have e := range_snoc (n := i) (p := fun _ => 0)
  repeat' first | (with_reducible first | refine nx' ?_ (by simp -implicitDefEqProofs (disch := omega) only [go_sem, alongX_len, e]; exact rfl) | refine n0 ?_ | refine rD ?_ | refine n1 ?_ | refine nilB_i fun b hb => ?_ | refine nP ?_ ?_ | refine nS fun K hK => ?_ | (refine n2 ?_ ?_ <;> intro h <;> first | subst (h : _ = true) | subst (h : _ = false) | (simp only [FX, LX, alongX_len, e] at h) | skip) | refine And.intro ?_ ?_ | refine nK ‹Imp _ _› ?_) | exact nl | fail
  · exact ⟨i + 1, by omega, by omega, Weak.cu⟩
  · obtain rfl : i = n := by omega
    exact finG_of [(2, .msl 0 0 i)] [] Weak.lo
instance (m : Nat) (f : Rat) : Con CC 168 [.d (.agg [.i m, .nil]), xV f] (m ≤ 1000) (jV f (alongX m fun _ => 0)) := by
  constructor; intro hm
  refine Den.pureP Tryz.func168 rfl 2 [.cell 4 120] (by kernel_rfl) rfl rfl (by simp only [initE_nil, initE_cons, Nat.reduceAdd]; exact rfl) ?_
  repeat' first | (with_reducible first | refine nx' ?_ | refine n0 ?_ | refine Wp.drawR (by decide +kernel) ?_ | refine Wp.drawSR [6, 7] [false, false, false, false, false, false, true, true] (.op 6 [0,1,2,3,4,5] (.op 7 [] .done)) (by decide +kernel) ?_ | refine n1 ?_ | refine nilB_i fun b hb => ?_ | refine nP ?_ ?_ | refine nS fun K hK => ?_ | (refine n2 ?_ ?_ <;> intro h <;> first | subst (h : _ = true) | subst (h : _ = false) | skip) | refine And.intro ?_ ?_ | refine nK ‹Imp _ _› ?_) | exact nl | fail
theorem jetOf_new (m : Nat) (f : Rat) (hm : m ≤ 1000) : CC 168 [.d (.agg [.i m, .nil]), xV f] [] (.agg [.d (.b (sgX f)), .d (encD (nuX f)), .d (encD (deX f)), .msl 0 0 m, .d .nil, .d (.b (sgX 0)), .d (encD (nuX 0)), .d (encD (deX 0))]) [.arr 3 ((alongX m fun _ => 0).map encX) false] := by
  have hz := zerosI_new m hm
  refine Den.newG (vs := [.agg [.d (.b (sgX f)), .d (encD (nuX f)), .d (encD (deX f)), .msl 0 0 m, .d .nil, .d (.b (sgX 0)), .d (encD (nuX 0)), .d (encD (deX 0))]]) Tryz.func168 rfl 2 0 [.cell 4 120] (by kernel_rfl) rfl rfl (by simp only [initE_nil, initE_cons, Nat.reduceAdd]; exact rfl) rfl rfl (by simp) rfl rfl ?_
  repeat' first | (with_reducible first | refine nx' ?_ | refine n0 ?_ | refine n1 ?_ | refine nilB_i fun b hb => ?_ | refine nP ?_ ?_ | refine nS fun K hK => ?_ | (refine n2 ?_ ?_ <;> intro h <;> first | subst (h : _ = true) | subst (h : _ = false) | skip) | refine And.intro ?_ ?_ | refine nK ‹Imp _ _› ?_) | exact nl | fail
  refine Wp.drawSR [3, 4, 5, 6, 7] [false, false, false, true, true, true, true, true] (.both (.op 3 [0] (.both (.op 4 [0] (.both (.op 5 [] (.op 6 [] (.op 7 [] .done))) (.op 6 [0] (.op 5 [] (.op 7 [] .done))))) (.op 6 [0] (.op 4 [0] (.op 5 [] (.op 7 [] .done)))))) (.op 6 [0,1,2] (.op 3 [0] (.op 4 [0] (.op 5 [] (.op 7 [] .done)))))) (by decide +kernel) ?_
  repeat' first | (with_reducible first | refine nx' ?_ | refine n0 ?_ | refine Wp.drawSR [6, 7] [false, false, false, false, false, false, true, true] (.op 6 [0,1,2,3,4,5] (.op 7 [] .done)) (by decide +kernel) ?_ | refine Wp.drawR (by decide +kernel) ?_ | refine n1 ?_ | refine nilB_i fun b hb => ?_ | refine nPn (hz) ?_ | refine nP ?_ ?_ | refine nS fun K hK => ?_ | (refine n2 ?_ ?_ <;> intro h <;> first | subst (h : _ = true) | subst (h : _ = false) | skip) | refine And.intro ?_ ?_ | refine nK ‹Imp _ _› ?_) | exact nl | fail
  · exact finG_of [(4, .ref 2 0 0)] _ (Weak.perm [3, 1, 2, 0, 4] rfl rfl Weak.lo)
  · exact finG_of [(4, .ref 2 0 0)] _ (Weak.perm [3, 1, 2, 0, 4] rfl rfl Weak.lo)
  · exact finG_of [(4, .ref 2 0 0)] _ (Weak.perm [3, 1, 2, 0, 4] rfl rfl Weak.lo)
  · exact finG_of [(4, .ref 2 0 0)] _ (Weak.perm [4, 1, 2, 3, 0] rfl rfl Weak.lo)
theorem set_one {m k : Nat} : (alongX m fun _ => (0 : Rat)).set k 1 = alongX m fun i => if i = k then 1 else 0 := by
  refine List.ext_getElem (by simp [alongX]) fun i h1 h2 => ?_
  simp only [alongX, List.getElem_set, List.getElem_map, List.getElem_range]
  by_cases h : k = i
  · simp [h]
  · simp [h, Ne.symm h]
instance (m : Nat) (f : Rat) (z : Int) : Con CC 169 [.d (.agg [.i m, .nil]), xV f, .d (.i z)] (m ≤ 1000 ∧ 0 ≤ z) (jV f (alongX m fun i => if i = z.toNat then 1 else 0)) := by
  constructor; intro ⟨hm, hz⟩
  by_cases h : z < (m : Int)
  · have hj := jetOf_new m f hm
    refine Den.pureP Tryz.func169 rfl 3 [.cell 6 120] (by kernel_rfl) rfl rfl (by simp only [initE_nil, initE_cons, Nat.reduceAdd]; exact rfl) ?_
    repeat' first | (with_reducible first | refine nx' ?_ (by simp -implicitDefEqProofs (disch := omega) only [go_sem, decide_eq_true h, set_one]; exact rfl) | refine n0 ?_ | refine Wp.drawSR [3, 4, 5] [false, false, false, true, true, true] (.op 3 [0,1,2] (.op 4 [] (.op 5 [] .done))) (by decide +kernel) ?_ | refine Wp.drawR (by decide +kernel) ?_ | refine n1 ?_ | refine nilB_i fun b hb => ?_ | refine nPn (hj) ?_ | refine nP ?_ ?_ | refine nS fun K hK => ?_ | (refine n2 ?_ ?_ <;> intro h <;> first | subst (h : _ = true) | subst (h : _ = false) | (simp only [FX, LX, decide_eq_true h, set_one] at h) | skip) | refine And.intro ?_ ?_ | refine nK ‹Imp _ _› ?_) | exact nl | fail
    · rw [List.length_range]; omega
    · rw [List.take_of_length_le (by simp)]
  · have e : (alongX m fun i => if i = z.toNat then (1 : Rat) else 0) = alongX m fun _ => 0 := List.map_congr_left fun i hi => by
      have := List.mem_range.1 hi
      rw [if_neg (by omega)]
    rw [e]
    refine Den.pureP Tryz.func169 rfl 3 [.cell 6 120] (by kernel_rfl) rfl rfl (by simp only [initE_nil, initE_cons, Nat.reduceAdd]; exact rfl) ?_
    repeat' first | (with_reducible first | refine nx' ?_ (by simp -implicitDefEqProofs (disch := omega) only [go_sem, decide_eq_false h]; exact rfl) | refine n0 ?_ | refine Wp.drawR (by decide +kernel) ?_ | refine Wp.drawSR [3, 4, 5] [false, false, false, true, true, true] (.op 3 [0,1,2] (.op 4 [] (.op 5 [] .done))) (by decide +kernel) ?_ | refine n1 ?_ | refine nilB_i fun b hb => ?_ | refine nP ?_ ?_ | refine nS fun K hK => ?_ | (refine n2 ?_ ?_ <;> intro h <;> first | subst (h : _ = true) | subst (h : _ = false) | (simp only [FX, LX, decide_eq_false h] at h) | skip) | refine And.intro ?_ ?_ | refine nK ‹Imp _ _› ?_) | exact nl | fail
end Go.PL
