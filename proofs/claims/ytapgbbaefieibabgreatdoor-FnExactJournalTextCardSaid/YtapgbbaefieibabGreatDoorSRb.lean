/- A plain machine, sound for the given model, and contracts of functions over it, part 36: SRb. Nothing is assumed. -/
import Derived.Test.YtapgbbaefieibabGreatDoorSRb0
set_option linter.unusedSimpArgs false
set_option linter.unusedVariables false
set_option linter.unusedSectionVars false
/- SRb -/
namespace Go.PL
open Go Go.Proofs
set_option maxRecDepth 10000
set_option maxHeartbeats 4000000
set_option linter.unusedSimpArgs false
set_option linter.unusedVariables false
theorem take_recT {l : List Rc} {i : Nat} (h : i < l.length) : (l.take i).map recTB ++ [recTB (l.getD i rc0)] = (l.take (i + 1)).map recTB := by
  rw [List.take_add_one, List.getElem?_eq_getElem h, List.map_append, List.getD, List.getElem?_eq_getElem h]; rfl
instance (a : Int) (l : List Rc) : Con CC 18 [.d (.agg [.i a, .sl (l.map encRc)])] (okRp ⟨a, l⟩ = true) (.d (.sl ((linR ⟨a, l⟩).map .s))) := by
  constructor; intro ho
  obtain ⟨h1, h2, h3, h4⟩ := okRp_parts ho
  simp only at h1 h2 h3 h4
  have e1 : (ByteArray.mk #[115, 116, 97, 116, 117, 115, 32]).size = 7 := rfl
  have sz := stW_size a.toNat
  have ls : stW.length = 7 := rfl
  refine Den.pureI Tryz.func18 rfl 1 [.tmp 2] (by kernel_rfl) rfl rfl (by simp only [initE_nil, initE_cons, Nat.reduceAdd]; exact rfl) ?_
  repeat' first | (with_reducible first | refine nx' ?_ | refine n0 ?_ | refine rD ?_ | refine n1 ?_ | refine nilB_i fun b hb => ?_ | refine nP ?_ ?_ | refine nS fun K hK => ?_ | (refine n2 ?_ ?_ <;> intro h <;> first | subst (h : _ = true) | subst (h : _ = false) | skip) | refine And.intro ?_ ?_ | refine nK ‹Imp _ _› ?_) | exact nl | fail
  refine Wp.loopR (fun x : Nat × List ByteArray => ⟨[(1, .ref 0 0 0), (3, .msl 1 0 x.2.length), (8, .d (.sl (l.map encRc))), (9, .d (.i l.length)), (10, .d (.i x.1))], [.var [.d (.i a), .d (.sl (l.map encRc))] false, .arr 1 (x.2.map .s) false]⟩) (fun x => l.length - x.1) (fun x => x.1 ≤ l.length ∧ x.2 = (l.take x.1).map recTB) (0, []) Weak.lo ⟨by simp, rfl⟩ ?_
  rintro ⟨i, ws⟩ ⟨hi, hw⟩ K hK
  simp only at hi hw ⊢
  have hlt : ws.length = i := by rw [hw, List.length_map, List.length_take]; omega
  by_cases hil : i < l.length
  · have e := take_recT hil
    have hki := h4 _ (getD_mem rc0 hil)
    repeat' first | (with_reducible first | refine nx' ?_ | refine n0 ?_ | refine rD ?_ | refine n1 ?_ | refine nilB_i fun b hb => ?_ | refine nP ?_ ?_ | refine nS fun K hK => ?_ | (refine n2 ?_ ?_ <;> intro h <;> first | subst (h : _ = true) | subst (h : _ = false) | skip) | refine And.intro ?_ ?_ | refine nK ‹Imp _ _› ?_) | exact nl | fail
    exact ⟨(i + 1, ws ++ [recTB (l.getD i rc0)]), by simp only; omega, ⟨by simp only; omega, by rw [hw, e]⟩, Weak.cu⟩
  · obtain rfl : i = l.length := by omega
    rw [List.take_length] at hw
    repeat' first | (with_reducible first | refine nx' ?_ (by simp -implicitDefEqProofs (disch := omega) only [go_sem, e1, ls, ByteArray.size_append]; exact rfl) | refine n0 ?_ | refine rD ?_ | refine n1 ?_ | refine nilB_i fun b hb => ?_ | refine nP ?_ ?_ | refine nS fun K hK => ?_ | (refine n2 ?_ ?_ <;> intro h <;> first | subst (h : _ = true) | subst (h : _ = false) | (simp only [FX, LX, e1, ls, ByteArray.size_append] at h) | skip) | refine And.intro ?_ ?_ | refine nK ‹Imp _ _› ?_) | exact nl | fail
    rw [hw]; rfl
end Go.PL
