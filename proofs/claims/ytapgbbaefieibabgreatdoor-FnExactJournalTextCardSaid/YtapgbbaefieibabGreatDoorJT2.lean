/- A plain machine, sound for the given model, and contracts of functions over it, part 38: JT2. Nothing is assumed. -/
import Derived.Test.YtapgbbaefieibabGreatDoorJT1
set_option linter.unusedSimpArgs false
set_option linter.unusedVariables false
set_option linter.unusedSectionVars false
/- JT2 -/
namespace Go.PL
open Go Go.Proofs
set_option maxRecDepth 10000
set_option maxHeartbeats 4000000
set_option linter.unusedSimpArgs false
set_option linter.unusedVariables false
theorem linR_len {r : Rp} : (linR r).length = r.recs.length + 1 := by simp [linR]
theorem lines_n (a : Int) (l : List Rc) (ho : okRp ⟨a, l⟩ = true) : CC 18 [.d (.agg [.i a, .sl (l.map encRc)])] [] (.msl 0 0 (linR ⟨a, l⟩).length) [.arr 1 ((linR ⟨a, l⟩).map .s) false] := by
  obtain ⟨h1, h2, h3, h4⟩ := okRp_parts ho
  simp only at h1 h2 h3 h4
  have e1 : (ByteArray.mk #[115, 116, 97, 116, 117, 115, 32]).size = 7 := rfl
  have sz := stW_size a.toNat
  have ls : stW.length = 7 := rfl
  refine Den.newG (vs := [.msl 0 0 (linR ⟨a, l⟩).length]) Tryz.func18 rfl 1 0 [.tmp 2] (by kernel_rfl) rfl rfl (by simp only [initE_nil, initE_cons, Nat.reduceAdd]; exact rfl) rfl rfl (by simp) rfl (by first | rfl | simp only [List.all_cons, List.all_nil, tree_bnd, arr_bnd, Bool.and_true]) ?_
  repeat' first | (with_reducible first | refine nx' ?_ | refine n0 ?_ | refine rD ?_ | refine n1 ?_ | refine nilB_i fun b hb => ?_ | refine nP ?_ ?_ | refine nS fun K hK => ?_ | (refine n2 ?_ ?_ <;> intro h <;> first | subst (h : _ = true) | subst (h : _ = false) | skip) | refine And.intro ?_ ?_ | refine nK ‹Imp _ _› ?_) | exact nl | fail
  refine Wp.loopR (fun x : Nat × List ByteArray => ⟨[(1, .ref 0 0 0), (3, .msl 1 0 x.2.length), (8, .d (.sl (l.map encRc))), (9, .d (.i l.length)), (10, .d (.i x.1))], [.var [.d (.i a), .d (.sl (l.map encRc))] false, .arr 1 (x.2.map .s) false]⟩) (fun x => l.length - x.1) (fun x => x.1 ≤ l.length ∧ x.2 = (l.take x.1).map recTB) (0, []) Weak.lo ⟨by simp, rfl⟩ ?_
  rintro ⟨i, ws⟩ ⟨hi, hw⟩ K hK
  simp only at hi hw ⊢
  have hlt : ws.length = i := by rw [hw, List.length_map, List.length_take]; omega
  by_cases hil : i < l.length
  · have e := take_recT hil
    have hki := h4 _ (getD_mem rc0 hil)
    repeat' first | (with_reducible first | refine nx' ?_ | refine n0 ?_ | refine rD ?_ | refine n1 ?_ | refine nilB_i fun b hb => ?_ | refine nP ?_ ?_ | refine nS fun K hK => ?_ | (refine n2 ?_ ?_ <;> intro h <;> first | subst (h : _ = true) | subst (h : _ = false) | skip) | refine And.intro ?_ ?_ | refine nK ‹Imp _ _› ?_) | exact nl | fail
    exact ⟨(i + 1, ws ++ [recTB (l.getD i rc0)]), by simp only; omega, ⟨by simp only; omega, by rw [hw, e]⟩, Weak.cu⟩
  · obtain rfl : i = l.length := by omega
    rw [List.take_length] at hw
    repeat' first | (with_reducible first | refine nx' ?_ (by simp -implicitDefEqProofs (disch := omega) only [go_sem, e1, ls, ByteArray.size_append]; exact rfl) | refine n0 ?_ | refine rD ?_ | refine n1 ?_ | refine nilB_i fun b hb => ?_ | refine nP ?_ ?_ | refine nS fun K hK => ?_ | (refine n2 ?_ ?_ <;> intro h <;> first | subst (h : _ = true) | subst (h : _ = false) | (simp only [FX, LX, e1, ls, ByteArray.size_append] at h) | skip) | refine And.intro ?_ ?_ | refine nK ‹Imp _ _› ?_) | exact nl | fail
    have e : ws ++ [ByteArray.mk #[115, 116, 97, 116, 117, 115, 32] ++ stW.getD a.toNat ByteArray.empty] = linR ⟨a, l⟩ := by rw [hw]; rfl
    rw [e]
    exact finG_of [(2, .msl 0 0 (linR ⟨a, l⟩).length)] _ (Weak.perm [1, 0, 2] rfl rfl Weak.lo)
theorem jText_no (a : Int) (l : List Rc) (hb : bRcs l) (ho : okRp ⟨a, l⟩ = false) : CC 7 [.d (.agg [.i a, .sl (l.map encRc)])] [] (.tup [.d (.sl (([] : List ByteArray).map .s)), .d (.i 1)]) [] := by
  simp only [List.map_nil]
  refine Den.pureI Tryz.func7 rfl 1 [.tmp 2, .tmp 3] (by kernel_rfl) rfl rfl (by simp only [initE_nil, initE_cons, Nat.reduceAdd]; exact rfl) ?_
  repeat' first | (with_reducible first | refine nx' ?_ (by simp -implicitDefEqProofs (disch := omega) only [go_sem, ho]; exact rfl) | refine n0 ?_ | refine rD ?_ | refine n1 ?_ | refine nilB_i fun b hb => ?_ | refine nP ?_ ?_ | refine nS fun K hK => ?_ | (refine n2 ?_ ?_ <;> intro h <;> first | subst (h : _ = true) | subst (h : _ = false) | (simp only [FX, LX, ho] at h) | skip) | refine And.intro ?_ ?_ | refine nK ‹Imp _ _› ?_) | exact nl | fail
theorem jText_n (a : Int) (l : List Rc) (hb : bRcs l) (ho : okRp ⟨a, l⟩ = true) : CC 7 [.d (.agg [.i a, .sl (l.map encRc)])] [] (.tup [.msl 0 0 (linR ⟨a, l⟩).length, .d (.i 0)]) [.arr 1 ((linR ⟨a, l⟩).map .s) false] := by
  have hn := lines_n a l ho
  refine Den.newG (vs := [.msl 0 0 (linR ⟨a, l⟩).length, .d (.i 0)]) Tryz.func7 rfl 1 0 [.tmp 2, .tmp 3] (by kernel_rfl) rfl rfl (by simp only [initE_nil, initE_cons, Nat.reduceAdd]; exact rfl) rfl rfl (by simp) rfl (by first | rfl | simp only [List.all_cons, List.all_nil, tree_bnd, arr_bnd, Bool.and_true]) ?_
  repeat' first | (with_reducible first | refine nx' ?_ (by simp -implicitDefEqProofs (disch := omega) only [go_sem, ho]; exact rfl) | refine n0 ?_ | refine rD ?_ | refine n1 ?_ | refine nilB_i fun b hb => ?_ | refine nPn (hn) ?_ | refine nP ?_ ?_ | refine nS fun K hK => ?_ | (refine n2 ?_ ?_ <;> intro h <;> first | subst (h : _ = true) | subst (h : _ = false) | (simp only [FX, LX, ho] at h) | skip) | refine And.intro ?_ ?_ | refine nK ‹Imp _ _› ?_) | exact nl | fail
  exact finG_of [(2, .msl 0 0 (linR ⟨a, l⟩).length), (3, .d (.i 0))] _ (Weak.perm [1, 0] rfl rfl Weak.lo)
instance (a : Int) (l : List Rc) : Con CC 5 [.d (.agg [.i a, .sl (l.map encRc)])] (bRcs l) (.tup [.d (.sl ((if okRp ⟨a, l⟩ then linR ⟨a, l⟩ else []).map .s)), .d (.i (if okRp ⟨a, l⟩ then 0 else 1))]) := by
  constructor; intro hb
  cases ho : okRp ⟨a, l⟩ with
  | true =>
    refine Den.pureI Tryz.func5 rfl 1 [.tmp 2, .tmp 3] (by kernel_rfl) rfl rfl (by simp only [initE_nil, initE_cons, Nat.reduceAdd]; exact rfl) ?_
    repeat' first | (with_reducible first | refine nx' ?_ (by simp -implicitDefEqProofs (disch := omega) only [go_sem, ho]; exact rfl) | refine n0 ?_ | refine rD ?_ | refine n1 ?_ | refine nilB_i fun b hb => ?_ | refine nP ?_ ?_ | refine nS fun K hK => ?_ | (refine n2 ?_ ?_ <;> intro h <;> first | subst (h : _ = true) | subst (h : _ = false) | (simp only [FX, LX, ho] at h) | skip) | refine And.intro ?_ ?_ | refine nK ‹Imp _ _› ?_) | exact nl | fail
  | false =>
    refine Den.pureI Tryz.func5 rfl 1 [.tmp 2, .tmp 3] (by kernel_rfl) rfl rfl (by simp only [initE_nil, initE_cons, Nat.reduceAdd]; exact rfl) ?_
    repeat' first | (with_reducible first | refine nx' ?_ (by simp -implicitDefEqProofs (disch := omega) only [go_sem, ho]; exact rfl) | refine n0 ?_ | refine rD ?_ | refine n1 ?_ | refine nilB_i fun b hb => ?_ | refine nP ?_ ?_ | refine nS fun K hK => ?_ | (refine n2 ?_ ?_ <;> intro h <;> first | subst (h : _ = true) | subst (h : _ = false) | (simp only [FX, LX, ho] at h) | skip) | refine And.intro ?_ ?_ | refine nK ‹Imp _ _› ?_) | exact nl | fail
    rfl
theorem toRep_t (a : Int) (l : List Rc) (hb : bRcs l) : CC 6 [.d (.agg [.i a, .sl (l.map encRc)])] [] (.agg [.d (.i a), .msl 0 0 l.length]) [.tree 6 ((l.map encRc).map .d)] := by
  have hn := toRecs_t l hb
  refine Den.newG (vs := [.agg [.d (.i a), .msl 0 0 l.length]]) Tryz.func6 rfl 1 0 [.cell 2 31] (by kernel_rfl) rfl rfl (by simp only [initE_nil, initE_cons, Nat.reduceAdd]; exact rfl) rfl rfl (by simp) rfl (by first | rfl | simp only [List.all_cons, List.all_nil, tree_bnd, arr_bnd, Bool.and_true]) ?_
  repeat' first | (with_reducible first | refine nx' ?_ | refine n0 ?_ | refine rD ?_ | refine n1 ?_ | refine nilB_i fun b hb => ?_ | refine nPt (hn) ?_ | refine nP ?_ ?_ | refine nS fun K hK => ?_ | (refine n2 ?_ ?_ <;> intro h <;> first | subst (h : _ = true) | subst (h : _ = false) | skip) | refine And.intro ?_ ?_ | refine nK ‹Imp _ _› ?_) | exact nl | fail
  exact finG_of [(2, .ref 1 0 0)] [.var [.d (.i a), .msl 0 0 l.length] false, .var [.d (.i a), .msl 0 0 l.length] false, .var [.d (.i a), .d (.sl (l.map encRc))] false]
    (Weak.perm [3, 1, 2, 0] rfl rfl (by simp -implicitDefEqProofs (disch := omega) only [go_sem]; exact Weak.lo)) rfl (by simp only [List.map_cons, List.map_nil, List.cons_append, List.nil_append]; rw [asD_rep])
theorem markRep_c (os : List Ob) (o n : Nat) (a k : Int) (l : List Rc) (ho : o < os.length) (hb : os.all (Ob.bnd os.length) = true) (hn : n = l.length) (hl : bRcs l) (hk : 0 ≤ k ∧ k + sumOf cC l ≤ 1000000000) :
    CC 10 [.agg [.d (.i a), .msl o 0 n], .d (.i k)] (os.set o (.tree 6 ((l.map encRc).map .d))) (.d (.i (k + sumOf cC l))) (os.set o (.tree 6 (((mkCs k l).map encRc).map .d))) := by
  haveI : Fr os o := ⟨ho, hb⟩
  have hm := markRecs_c (os ++ [.var [.d (.i a), .msl o 0 n] false]) o n k l (by simp; omega) (by
    rw [List.length_append, List.all_append, Bool.and_eq_true]
    refine ⟨all_mono (fun _ => Ob.bnd_mono (by omega)) hb, ?_⟩
    simp [Ob.bnd, V.bnd, V.bnd1, Nat.blt_eq]; omega) hn hl hk
  rw [List.set_append_left _ _ ho, List.set_append_left _ _ ho] at hm
  refine Den.newG (vs := [.d (.i (k + sumOf cC l))]) Tryz.func10 rfl 2 os.length [.tmp 4] (by kernel_rfl) rfl rfl (by simp only [initE_nil, initE_cons, Nat.reduceAdd]; exact rfl) rfl (by simp) (by simp) rfl (by rw [List.length_set]; exact all_set' hb tree_bnd) ?_
  repeat' first | (with_reducible first | refine nx' ?_ | refine n0 ?_ | refine rD ?_ | refine n1 ?_ | refine nilB_i fun b hb => ?_ | refine nPm (hm) ?_ | refine nP ?_ ?_ | refine nS fun K hK => ?_ | (refine n2 ?_ ?_ <;> intro h <;> first | subst (h : _ = true) | subst (h : _ = false) | skip) | refine And.intro ?_ ?_ | refine nK ‹Imp _ _› ?_) | exact nl | fail
  exact finG_of [(4, .d (.i (k + sumOf cC l)))] [.var [.d (.i a), .msl o 0 n] false] Weak.lo
end Go.PL
