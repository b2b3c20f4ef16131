/- A plain machine, sound for the given model, and contracts of functions over it, part 38: RM6 RDT. Nothing is assumed. -/
import Derived.Test.YtedbifiejciocadGreatDoorRM5
set_option linter.unusedSimpArgs false
set_option linter.unusedVariables false
set_option linter.unusedSectionVars false
/- RM6 -/
namespace Go.PL
open Go Go.Proofs
set_option maxRecDepth 10000
set_option maxHeartbeats 4000000
set_option linter.unusedSimpArgs false
set_option linter.unusedVariables false
instance (k : Int) : Con CC 14 [.d (.sl []), .d (.i k)] True (.d (.i k)) := by
  constructor; intro _
  refine Den.pureI Tryz.func14 rfl 2 [.tmp 4] (by kernel_rfl) rfl rfl (by simp only [initE_nil, initE_cons, Nat.reduceAdd]; exact rfl) ?_
  repeat' first | (with_reducible first | refine nx' ?_ | refine n0 ?_ | refine rD ?_ | refine n1 ?_ | refine nilB_i fun b hb => ?_ | refine nP ?_ ?_ | refine nS fun K hK => ?_ | (refine n2 ?_ ?_ <;> intro h <;> first | subst (h : _ = true) | subst (h : _ = false) | skip) | refine And.intro ?_ ?_ | refine nK ‹Imp _ _› ?_) | exact nl | fail
  refine Wp.loopR (fun _ : Nat => ⟨[(0, .d (.sl [])), (1, .d (.i k)), (5, .d (.i 0))], []⟩) (fun i => i) (fun _ => True) 0 Weak.lo trivial ?_
  rintro i _ K hK
  repeat' first | (with_reducible first | refine nx' ?_ | refine n0 ?_ | refine rD ?_ | refine n1 ?_ | refine nilB_i fun b hb => ?_ | refine nP ?_ ?_ | refine nS fun K hK => ?_ | (refine n2 ?_ ?_ <;> intro h <;> first | subst (h : _ = true) | subst (h : _ = false) | skip) | refine And.intro ?_ ?_ | refine nK ‹Imp _ _› ?_) | exact nl | fail
instance (b : Bool) (k : Int) : Con CC 7 [.d (.agg [.b b, .sl (([] : List Int).map .i), .sl (([] : List Int).map .i)]), .d (.i k)] True (.d (.i k)) := by
  constructor; intro _
  simp only [List.map_nil]
  refine Den.pureI Tryz.func7 rfl 2 [.tmp 4] (by kernel_rfl) rfl rfl (by simp only [initE_nil, initE_cons, Nat.reduceAdd]; exact rfl) ?_
  repeat' first | (with_reducible first | refine nx' ?_ | refine n0 ?_ | refine rD ?_ | refine n1 ?_ | refine nilB_i fun b hb => ?_ | refine nP ?_ ?_ | refine nS fun K hK => ?_ | (refine n2 ?_ ?_ <;> intro h <;> first | subst (h : _ = true) | subst (h : _ = false) | skip) | refine And.intro ?_ ?_ | refine nK ‹Imp _ _› ?_) | exact nl | fail
set_option maxHeartbeats 4000000 in
theorem markRat_m (c0 c1 c2 : D) (g : Bool) (e1 e2 : List Int) (a b : Nat) (k : Int) (ha : a ≤ e1.length) (hb : b ≤ e2.length) (h1 : e1.length ≤ 1000) (h2 : e2.length ≤ 1000) (hk : 0 ≤ k ∧ k ≤ 1000000) :
    CC 7 [.agg [.d (.b g), .msl 2 0 a, .msl 1 0 b], .d (.i k)] [.var [.d c0, .d c1, .d c2] false, .arr 1 (e2.map .i) false, .arr 1 (e1.map .i) false, .var [.d (.b g), .msl 2 0 a, .msl 1 0 b] false] (.d (.i (k + a + b)))
      [.var [.d c0, .d c1, .d c2] false, .arr 1 ((mkL (k + a) b ++ e2.drop b).map .i) false, .arr 1 ((mkL k a ++ e1.drop a).map .i) false, .var [.d (.b g), .msl 2 0 a, .msl 1 0 b] false] := by
  have m1 := markInts_c [.var [.d c0, .d c1, .d c2] false, .arr 1 (e2.map .i) false, .arr 1 (e1.map .i) false, .var [.d (.b g), .msl 2 0 a, .msl 1 0 b] false, .var [.d (.b g), .msl 2 0 a, .msl 1 0 b] false] 2 a k e1 (by simp) rfl ha (by omega) (by omega)
  have m2 := markInts_c [.var [.d c0, .d c1, .d c2] false, .arr 1 (e2.map .i) false, .arr 1 ((mkL k a ++ e1.drop a).map .i) false, .var [.d (.b g), .msl 2 0 a, .msl 1 0 b] false, .var [.d (.b g), .msl 2 0 a, .msl 1 0 b] false] 1 b (k + a) e2 (by simp) rfl hb (by omega) (by omega)
  simp only [List.set_cons_succ, List.set_cons_zero] at m1 m2
  refine Den.newG (vs := [.d (.i (k + a + b))]) Tryz.func7 rfl 2 4 [.tmp 4] (by kernel_rfl) rfl rfl (by simp only [initE_nil, initE_cons, Nat.reduceAdd]; exact rfl) rfl rfl (by simp) rfl rfl ?_
  repeat' first | (with_reducible first | refine nx' ?_ | refine n0 ?_ | refine rD ?_ | refine n1 ?_ | refine nilB_i fun b hb => ?_ | refine nPm (m1) ?_ | refine nPm (m2) ?_ | refine nP ?_ ?_ | refine nS fun K hK => ?_ | (refine n2 ?_ ?_ <;> intro h <;> first | subst (h : _ = true) | subst (h : _ = false) | skip) | refine And.intro ?_ ?_ | refine nK ‹Imp _ _› ?_) | exact nl | fail
  exact finG_of [(4, .d (.i (k + a + b)))] [.var [.d (.b g), .msl 2 0 a, .msl 1 0 b] false] Weak.lo
set_option maxHeartbeats 4000000 in
instance (t : List UInt8) : Con CC 3 [.d (.s (strT t))] (t.length < 4611686018427387904) (.d (.b true)) := by
  constructor; intro ht0
  have hsz : (strT t).size = t.length := strT_size
  by_cases h20 : 1048576 < t.length
  · refine Den.pureI Tryz.func3 rfl 1 [.tmp 2] (by kernel_rfl) rfl rfl (by simp only [initE_nil, initE_cons, Nat.reduceAdd]; exact rfl) ?_
    repeat' first | (with_reducible first | refine nx' ?_ (by simp -implicitDefEqProofs (disch := omega) only [go_sem, hsz]; exact rfl) | refine n0 ?_ | refine rD ?_ | refine n1 ?_ | refine nilB_i fun b hb => ?_ | refine nP ?_ ?_ | refine nS fun K hK => ?_ | (refine n2 ?_ ?_ <;> intro h <;> first | subst (h : _ = true) | subst (h : _ = false) | (simp only [FX, LX, hsz] at h) | skip) | refine And.intro ?_ ?_ | refine nK ‹Imp _ _› ?_) | exact nl | fail
  · have ht : t.length ≤ 1048576 := by omega
    by_cases h : 65536 < t.length
    · have hv := rv_long h
      have hr : CC 5 [.d (.s (strT t))] [] (.tup [.d (.agg [.b false, .sl (([] : List Int).map .i), .sl (([] : List Int).map .i)]), .d (.i 2)]) [] := ReadRat_long t ht h
      refine Den.pureI Tryz.func3 rfl 1 [.tmp 2] (by kernel_rfl) rfl rfl (by simp only [initE_nil, initE_cons, Nat.reduceAdd]; exact rfl) ?_
      repeat' first | (with_reducible first | refine nx' ?_ (by simp -implicitDefEqProofs (disch := omega) only [go_sem, hsz, hv]; exact rfl) | refine n0 ?_ | refine rD ?_ | refine n1 ?_ | refine nilB_i fun b hb => ?_ | refine nPc (hr) ?_ | refine nP ?_ ?_ | refine nS fun K hK => ?_ | (refine n2 ?_ ?_ <;> intro h <;> first | subst (h : _ = true) | subst (h : _ = false) | (simp only [FX, LX, hsz, hv] at h) | skip) | refine And.intro ?_ ?_ | refine nK ‹Imp _ _› ?_) | exact nl | fail
      all_goals first | rfl | (constructor <;> (try simp only [List.length_take, List.length_nil]) <;> omega) | (simp [mkL_len]; omega) | (simp [mkL_len]; done) | (exfalso; simp at *; done) | (exfalso; omega) | skip
    · cases hk : rdOk t with
      | false =>
        have hv := rv_no h hk
        have hr : CC 5 [.d (.s (strT t))] [] (.tup [.d (.agg [.b false, .sl (([] : List Int).map .i), .sl (([] : List Int).map .i)]), .d (.i 3)]) [] := ReadRat_no t ht h hk
        refine Den.pureI Tryz.func3 rfl 1 [.tmp 2] (by kernel_rfl) rfl rfl (by simp only [initE_nil, initE_cons, Nat.reduceAdd]; exact rfl) ?_
        repeat' first | (with_reducible first | refine nx' ?_ (by simp -implicitDefEqProofs (disch := omega) only [go_sem, hsz, hv]; exact rfl) | refine n0 ?_ | refine rD ?_ | refine n1 ?_ | refine nilB_i fun b hb => ?_ | refine nPc (hr) ?_ | refine nP ?_ ?_ | refine nS fun K hK => ?_ | (refine n2 ?_ ?_ <;> intro h <;> first | subst (h : _ = true) | subst (h : _ = false) | (simp only [FX, LX, hsz, hv] at h) | skip) | refine And.intro ?_ ?_ | refine nK ‹Imp _ _› ?_) | exact nl | fail
        all_goals first | rfl | (constructor <;> (try simp only [List.length_take, List.length_nil]) <;> omega) | (simp [mkL_len]; omega) | (simp [mkL_len]; done) | (exfalso; simp at *; done) | (exfalso; omega) | skip
      | true =>
        have hv := rv_yes h hk
        obtain ⟨e1, e2, ⟨q1, q2, q3, q4, q5, q6⟩, hr⟩ := ReadRat_yes t ht h hk
        generalize (rdVal t) = x at *
        obtain ⟨g, u, v⟩ := x
        simp only at q1 q2 q3 q4 hr
        have hm := markRat_m (.b g) (.sl (u.map .i)) (.sl (v.map .i)) g e1 e2 u.length v.length 1 q3 q4 (by omega) (by omega) (by omega)
        have k1 : (mkL 1 u.length ++ e1.drop u.length).take u.length = mkL 1 u.length := by rw [List.take_append_of_le_length (by rw [mkL_len]; exact Nat.le_refl _), List.take_of_length_le (by rw [mkL_len]; exact Nat.le_refl _)]
        have k2 : (mkL (1 + u.length) v.length ++ e2.drop v.length).take v.length = mkL (1 + u.length) v.length := by rw [List.take_append_of_le_length (by rw [mkL_len]; exact Nat.le_refl _), List.take_of_length_le (by rw [mkL_len]; exact Nat.le_refl _)]
        refine Den.pureI Tryz.func3 rfl 1 [.tmp 2] (by kernel_rfl) rfl rfl (by simp only [initE_nil, initE_cons, Nat.reduceAdd]; exact rfl) ?_
        repeat' first | (with_reducible first | refine nx' ?_ (by simp -implicitDefEqProofs (disch := omega) only [go_sem, hsz, hv, q1, q2, k1, k2, mkL_len]; exact rfl) | refine n0 ?_ | refine rD ?_ | refine n1 ?_ | refine nilB_i fun b hb => ?_ | refine nPn (hr) ?_ | refine nPm (hm) ?_ | refine nP ?_ ?_ | refine nS fun K hK => ?_ | (refine n2 ?_ ?_ <;> intro h <;> first | subst (h : _ = true) | subst (h : _ = false) | (simp only [FX, LX, hsz, hv, q1, q2, k1, k2, mkL_len] at h) | skip) | refine And.intro ?_ ?_ | refine nK ‹Imp _ _› ?_) | exact nl | fail
        all_goals first | rfl | (constructor <;> (try simp only [List.length_take, List.length_nil]) <;> omega) | (simp [mkL_len]; omega) | (simp [mkL_len]; done) | (exfalso; simp at *; done) | (exfalso; omega) | skip
end Go.PL

/- RDT -/
namespace Go.PL
open Go Go.Proofs
theorem strArg.argV {H : Type} {enc : TypeId × Value → H} {P : Program} {w : World} {t : TypeId} {base : Nat} {v : Value} {d : DataW H} {ps : List MemPlace} (ht : P.underlying t = some .string) (hv : Value.okWide P w .any base t v)
    (hx : DataW.Trod enc P w 0 (fun _ => true) true t v d ps) (hw : ∀ k ∈ d.weights P t, k ≤ reachBytes) : ∃ l : List UInt8, l.length < 4611686018427387904 ∧ RelD w (PrW w) (.s (strT l)) v := by
  obtain ⟨fuel, hx⟩ := hx
  obtain ⟨s, h1, h2, _⟩ := DataW.trod_string ht hx
  have hs : v = .string s := by
    unfold Value.okWide at hv
    rw [ht] at hv
    simp only at hv
    cases v with
    | agg cs =>
      exfalso
      unfold Cell.okWide at hv
      rw [ht] at hv
      unfold Cell.ok at hv
      rw [ht] at hv
      simp at hv
    | string s2 => simp [Value.cells] at h1; rw [h1]
    | _ => simp [Value.cells] at h1
  subst hs
  refine ⟨s.data.toList, ?_, .val _⟩
  have := hw s.data.toList.length (by simp only [Prod.mk.injEq] at h2; rw [h2.1]; simp [DataW.weights])
  unfold reachBytes at this
  omega
end Go.PL
