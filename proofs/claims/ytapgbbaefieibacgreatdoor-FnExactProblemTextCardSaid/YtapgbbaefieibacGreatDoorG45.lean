/- A plain machine, sound for the given model, and contracts of functions over it, part 45: PBd PBe. Nothing is assumed. -/
import Derived.Test.YtapgbbaefieibacGreatDoorG31
import Derived.Test.YtapgbbaefieibacGreatDoorPBc2
import Derived.Test.YtapgbbaefieibacGreatDoorPBc1
set_option linter.unusedSimpArgs false
set_option linter.unusedVariables false
set_option linter.unusedSectionVars false
/- PBd -/
namespace Go.PL
open Go Go.Proofs
set_option maxRecDepth 10000
set_option maxHeartbeats 4000000
set_option linter.unusedSimpArgs false
set_option linter.unusedVariables false
theorem exTB_size {l : List Nd} (h : okE l = true) : (exTB l).size ≤ 40960000000000 := by
  obtain ⟨h1, h2, bg, dp, hs, h12⟩ := okE_parts h
  exact texts_fin hs h12 _ (Nat.le_refl _) _ (by omega)
theorem soW_size (k : Nat) : (soW.getD k ByteArray.empty).size ≤ 9 := by
  by_cases h : k < 5
  · rcases (show k = 0 ∨ k = 1 ∨ k = 2 ∨ k = 3 ∨ k = 4 by omega) with rfl | rfl | rfl | rfl | rfl <;> decide
  · rw [List.getD, List.getElem?_eq_none (by simp [soW]; omega)]; decide
instance : Con CC 42 [] True (.d (.sl (soW.map .s))) := by
  constructor; intro _
  refine Den.pureI Tryz.func42 rfl 0 [.tmp 0] (by kernel_rfl) rfl rfl (by simp only [initE_nil, initE_cons, Nat.reduceAdd]; exact rfl) ?_
  repeat' first | (with_reducible first | refine nx' ?_ | refine n0 ?_ | refine rD ?_ | refine n1 ?_ | refine nilB_i fun b hb => ?_ | refine nP ?_ ?_ | refine nS fun K hK => ?_ | (refine n2 ?_ ?_ <;> intro h <;> first | subst (h : _ = true) | subst (h : _ = false) | skip) | refine And.intro ?_ ?_ | refine nK ‹Imp _ _› ?_) | exact nl | fail
  all_goals rfl
/-- A problem's lines. -/
def linP (p : Pb) : List ByteArray :=
  (if 0 < p.low.length then [⟨#[109, 105, 110, 105, 109, 105, 122, 101, 32]⟩ ++ exTB p.f, ⟨#[115, 116, 97, 114, 116, 32]⟩ ++ vecTB p.start, ⟨#[108, 111, 119, 32]⟩ ++ vecTB p.low, ⟨#[104, 105, 103, 104, 32]⟩ ++ vecTB p.high] else [⟨#[109, 105, 110, 105, 109, 105, 122, 101, 32]⟩ ++ exTB p.f, ⟨#[115, 116, 97, 114, 116, 32]⟩ ++ vecTB p.start]) ++
  [⟨#[115, 111, 108, 118, 101, 114, 32]⟩ ++ soW.getD p.solver.toNat ByteArray.empty, ⟨#[101, 112, 115, 32]⟩ ++ ratTB p.eps, ⟨#[108, 105, 109, 105, 116, 115, 32]⟩ ++ digB p.iter.toNat ++ ⟨#[32]⟩ ++ digB p.back.toNat]
set_option maxHeartbeats 4000000 in
instance (f : List Nd) (s l w : List Rt) (so : Int) (g : Bool) (u v : List Int) (it ba : Int) : Con CC 22 [.d (pbD f s l w so g u v it ba)] (okPb ⟨f, s, l, w, so, ⟨g, u, v⟩, it, ba⟩ = true) (.d (.sl ((linP ⟨f, s, l, w, so, ⟨g, u, v⟩, it, ba⟩).map .s))) := by
  constructor; intro ho
  obtain ⟨k1, k2, k3, k4, k5, k6, k7, k8, k9, k10, k11, k12⟩ := okPb_iff.1 ho
  have z1 := exTB_size k1
  have z2 := vecTB_size k2
  have z3 := ratTB_size k6
  have z4 := soW_size so.toNat
  have ei : itoaB it = digB it.toNat := by rw [← itoaB_nat, show ((it.toNat : Nat) : Int) = it by omega]
  have eb : itoaB ba = digB ba.toNat := by rw [← itoaB_nat, show ((ba.toNat : Nat) : Int) = ba by omega]
  have z5 := digB_size it.toNat
  have z6 := digB_size ba.toNat
  have ls : soW.length = 5 := rfl
  have e1 : (ByteArray.mk #[109, 105, 110, 105, 109, 105, 122, 101, 32]).size = 9 := rfl
  have e2 : (ByteArray.mk #[115, 116, 97, 114, 116, 32]).size = 6 := rfl
  have e3 : (ByteArray.mk #[108, 111, 119, 32]).size = 4 := rfl
  have e4 : (ByteArray.mk #[104, 105, 103, 104, 32]).size = 5 := rfl
  have e5 : (ByteArray.mk #[115, 111, 108, 118, 101, 114, 32]).size = 7 := rfl
  have e6 : (ByteArray.mk #[101, 112, 115, 32]).size = 4 := rfl
  have e7 : (ByteArray.mk #[108, 105, 109, 105, 116, 115, 32]).size = 7 := rfl
  have e8 : (ByteArray.mk #[32]).size = 1 := rfl
  by_cases hb : 0 < l.length
  · obtain ⟨b1, b2, b3, b4, b5, b6⟩ : okVec l = true ∧ okVec w = true ∧ l.length = s.length ∧ w.length = s.length ∧ leAll l s ∧ leAll s w := by
      rcases k12 with ⟨y1, y2⟩ | y
      · omega
      · exact y
    have z7 := vecTB_size b1
    have z8 := vecTB_size b2
    have b7 := (okVec_parts b1).1
    refine Den.pureI Tryz.func22 rfl 1 [.tmp 2] (by kernel_rfl) rfl rfl (by simp only [initE_nil, initE_cons, Nat.reduceAdd]; exact rfl) ?_
    repeat' first | (with_reducible first | refine nx' ?_ (by simp -implicitDefEqProofs (disch := omega) only [go_sem, e1, e2, e3, e4, e5, e6, e7, e8, ls, ei, eb, hb, ByteArray.size_append]; exact rfl) | refine n0 ?_ | refine Wp.drawR (by decide +kernel) ?_ | refine Wp.drawSR [9, 10, 11] [false, false, false, false, false, false, false, false, false, true, true, true] (.op 9 [0] (.op 10 [] (.op 11 [] .done))) (by decide +kernel) ?_ | refine Wp.drawSR [20, 21, 22] [false, false, false, false, false, false, false, false, false, false, false, false, false, false, false, false, false, false, false, false, true, true, true] (.op 20 [0] (.op 21 [] (.op 22 [] .done))) (by decide +kernel) ?_ | refine Wp.drawSR [8, 9] [false, false, false, false, false, false, false, false, true, true] (.op 8 [] (.op 9 [] .done)) (by decide +kernel) ?_ | refine n1 ?_ | refine nilB_i fun b hb => ?_ | refine nP ?_ ?_ | refine nS fun K hK => ?_ | (refine n2 ?_ ?_ <;> intro h <;> first | subst (h : _ = true) | subst (h : _ = false) | (simp only [FX, LX, e1, e2, e3, e4, e5, e6, e7, e8, ls, ei, eb, hb, ByteArray.size_append] at h) | skip) | refine And.intro ?_ ?_ | refine nK ‹Imp _ _› ?_) | exact nl | fail
    all_goals first | exact absurd trivial h | (simp only [linP, if_pos hb]; rfl) | (simp; done) | skip
  · have b7 : l.length = 0 := by omega
    refine Den.pureI Tryz.func22 rfl 1 [.tmp 2] (by kernel_rfl) rfl rfl (by simp only [initE_nil, initE_cons, Nat.reduceAdd]; exact rfl) ?_
    repeat' first | (with_reducible first | refine nx' ?_ (by simp -implicitDefEqProofs (disch := omega) only [go_sem, e1, e2, e3, e4, e5, e6, e7, e8, ls, ei, eb, b7, ByteArray.size_append]; exact rfl) | refine n0 ?_ | refine Wp.drawR (by decide +kernel) ?_ | refine Wp.drawSR [9, 10, 11] [false, false, false, false, false, false, false, false, false, true, true, true] (.op 9 [0] (.op 10 [] (.op 11 [] .done))) (by decide +kernel) ?_ | refine Wp.drawSR [20, 21, 22] [false, false, false, false, false, false, false, false, false, false, false, false, false, false, false, false, false, false, false, false, true, true, true] (.op 20 [0] (.op 21 [] (.op 22 [] .done))) (by decide +kernel) ?_ | refine Wp.drawSR [8, 9] [false, false, false, false, false, false, false, false, true, true] (.op 8 [] (.op 9 [] .done)) (by decide +kernel) ?_ | refine n1 ?_ | refine nilB_i fun b hb => ?_ | refine nP ?_ ?_ | refine nS fun K hK => ?_ | (refine n2 ?_ ?_ <;> intro h <;> first | subst (h : _ = true) | subst (h : _ = false) | (simp only [FX, LX, e1, e2, e3, e4, e5, e6, e7, e8, ls, ei, eb, b7, ByteArray.size_append] at h) | skip) | refine And.intro ?_ ?_ | refine nK ‹Imp _ _› ?_) | exact nl | fail
    all_goals first | (simp only [linP, if_neg hb]; rfl) | (simp; done) | skip
set_option maxHeartbeats 4000000 in
instance (f : List Nd) (s l w : List Rt) (so : Int) (g : Bool) (u v : List Int) (it ba : Int) : Con CC 17 [.d (pbD f s l w so g u v it ba)] (okPb ⟨f, s, l, w, so, ⟨g, u, v⟩, it, ba⟩ = true) (.d (.sl ((linP ⟨f, s, l, w, so, ⟨g, u, v⟩, it, ba⟩).map .s))) := by
  constructor; intro ho
  obtain ⟨k1, k2, k3, k4, k5, k6, k7, k8, k9, k10, k11, k12⟩ := okPb_iff.1 ho
  have z1 := exTB_size k1
  have z2 := vecTB_size k2
  have z3 := ratTB_size k6
  have z4 := soW_size so.toNat
  have ei : itoaB it = digB it.toNat := by rw [← itoaB_nat, show ((it.toNat : Nat) : Int) = it by omega]
  have eb : itoaB ba = digB ba.toNat := by rw [← itoaB_nat, show ((ba.toNat : Nat) : Int) = ba by omega]
  have z5 := digB_size it.toNat
  have z6 := digB_size ba.toNat
  have ls : soW.length = 5 := rfl
  have e1 : (ByteArray.mk #[109, 105, 110, 105, 109, 105, 122, 101, 32]).size = 9 := rfl
  have e2 : (ByteArray.mk #[115, 116, 97, 114, 116, 32]).size = 6 := rfl
  have e3 : (ByteArray.mk #[108, 111, 119, 32]).size = 4 := rfl
  have e4 : (ByteArray.mk #[104, 105, 103, 104, 32]).size = 5 := rfl
  have e5 : (ByteArray.mk #[115, 111, 108, 118, 101, 114, 32]).size = 7 := rfl
  have e6 : (ByteArray.mk #[101, 112, 115, 32]).size = 4 := rfl
  have e7 : (ByteArray.mk #[108, 105, 109, 105, 116, 115, 32]).size = 7 := rfl
  have e8 : (ByteArray.mk #[32]).size = 1 := rfl
  obtain ⟨g1, g2, bg, dp, hs, h12⟩ := okE_parts k1
  have ht : CC 40 [.d (.agg [.sl (f.map encNd)]), .d (.i ((f.length : Int) - 1))] [] (.d (.s (exTB f))) [] := by
    rw [show (f.length : Int) - 1 = ((f.length - 1 : Nat) : Int) by omega]
    exact textS_c f g2 hs h12 (f.length - 1) (by omega)
  have hi := digits_z it ⟨by omega, by omega⟩
  have hj := digits_z ba ⟨by omega, by omega⟩
  by_cases hb : 0 < l.length
  · obtain ⟨b1, b2, b3, b4, b5, b6⟩ : okVec l = true ∧ okVec w = true ∧ l.length = s.length ∧ w.length = s.length ∧ leAll l s ∧ leAll s w := by
      rcases k12 with ⟨y1, y2⟩ | y
      · omega
      · exact y
    have z7 := vecTB_size b1
    have z8 := vecTB_size b2
    have b7 := (okVec_parts b1).1
    refine Den.pureI Tryz.func17 rfl 1 [.tmp 2] (by kernel_rfl) rfl rfl (by simp only [initE_nil, initE_cons, Nat.reduceAdd]; exact rfl) ?_
    repeat' first | (with_reducible first | refine nx' ?_ (by simp -implicitDefEqProofs (disch := omega) only [go_sem, e1, e2, e3, e4, e5, e6, e7, e8, ls, ei, eb, hb, ByteArray.size_append]; exact rfl) | refine n0 ?_ | refine Wp.drawR (by decide +kernel) ?_ | refine Wp.drawSR [9, 10, 11] [false, false, false, false, false, false, false, false, false, true, true, true] (.op 9 [0] (.op 10 [] (.op 11 [] .done))) (by decide +kernel) ?_ | refine Wp.drawSR [20, 21, 22] [false, false, false, false, false, false, false, false, false, false, false, false, false, false, false, false, false, false, false, false, true, true, true] (.op 20 [0] (.op 21 [] (.op 22 [] .done))) (by decide +kernel) ?_ | refine Wp.drawSR [13, 14] [false, false, false, false, false, false, false, false, false, false, false, false, false, true, true] (.op 13 [] (.op 14 [] .done)) (by decide +kernel) ?_ | refine n1 ?_ | refine nilB_i fun b hb => ?_ | refine nPc (ht) ?_ | refine nPc (hi) ?_ | refine nPc (hj) ?_ | refine nP ?_ ?_ | refine nS fun K hK => ?_ | (refine n2 ?_ ?_ <;> intro h <;> first | subst (h : _ = true) | subst (h : _ = false) | (simp only [FX, LX, e1, e2, e3, e4, e5, e6, e7, e8, ls, ei, eb, hb, ByteArray.size_append] at h) | skip) | refine And.intro ?_ ?_ | refine nK ‹Imp _ _› ?_) | exact nl | fail
    all_goals first | exact absurd trivial h | (simp only [linP, if_pos hb]; rfl) | (simp; done) | skip
  · have b7 : l.length = 0 := by omega
    refine Den.pureI Tryz.func17 rfl 1 [.tmp 2] (by kernel_rfl) rfl rfl (by simp only [initE_nil, initE_cons, Nat.reduceAdd]; exact rfl) ?_
    repeat' first | (with_reducible first | refine nx' ?_ (by simp -implicitDefEqProofs (disch := omega) only [go_sem, e1, e2, e3, e4, e5, e6, e7, e8, ls, ei, eb, b7, ByteArray.size_append]; exact rfl) | refine n0 ?_ | refine Wp.drawR (by decide +kernel) ?_ | refine Wp.drawSR [9, 10, 11] [false, false, false, false, false, false, false, false, false, true, true, true] (.op 9 [0] (.op 10 [] (.op 11 [] .done))) (by decide +kernel) ?_ | refine Wp.drawSR [20, 21, 22] [false, false, false, false, false, false, false, false, false, false, false, false, false, false, false, false, false, false, false, false, true, true, true] (.op 20 [0] (.op 21 [] (.op 22 [] .done))) (by decide +kernel) ?_ | refine Wp.drawSR [13, 14] [false, false, false, false, false, false, false, false, false, false, false, false, false, true, true] (.op 13 [] (.op 14 [] .done)) (by decide +kernel) ?_ | refine n1 ?_ | refine nilB_i fun b hb => ?_ | refine nPc (ht) ?_ | refine nPc (hi) ?_ | refine nPc (hj) ?_ | refine nP ?_ ?_ | refine nS fun K hK => ?_ | (refine n2 ?_ ?_ <;> intro h <;> first | subst (h : _ = true) | subst (h : _ = false) | (simp only [FX, LX, e1, e2, e3, e4, e5, e6, e7, e8, ls, ei, eb, b7, ByteArray.size_append] at h) | skip) | refine And.intro ?_ ?_ | refine nK ‹Imp _ _› ?_) | exact nl | fail
    all_goals first | (simp only [linP, if_neg hb]; rfl) | (simp; done) | skip
end Go.PL

/- PBe -/
namespace Go.PL
open Go Go.Proofs
set_option maxRecDepth 10000
set_option maxHeartbeats 4000000
set_option linter.unusedSimpArgs false
set_option linter.unusedVariables false
theorem bPb_of {p : Pb} (h : szPb p ≤ 1048576) : bPb p := by
  unfold szPb at h
  exact ⟨by omega, bV_of (by omega), bV_of (by omega), bV_of (by omega), by unfold szR at h; omega, by unfold szR at h; omega⟩
theorem linP_len (p : Pb) : (linP p).length ≤ 7 := by unfold linP; split <;> simp
end Go.PL
