/- A plain machine, sound for the given model, and contracts of functions over it, part 37: JT1. Nothing is assumed. -/
import Derived.Test.YtapgbbaefieibabGreatDoorG31
import Derived.Test.YtapgbbaefieibabGreatDoorSRb
set_option linter.unusedSimpArgs false
set_option linter.unusedVariables false
set_option linter.unusedSectionVars false
/- JT1 -/
namespace Go.PL
open Go Go.Proofs
set_option maxRecDepth 10000
set_option maxHeartbeats 4000000
set_option linter.unusedSimpArgs false
set_option linter.unusedVariables false
/-- What a mark's text is. -/
def mTx : Nat → Nat → ByteArray → ByteArray
  | 0, _, out => out
  | f + 1, k, out => if k = 0 then out else mTx f (k / 10) (strB [IntKind.u8.wrap (48 + (k : Int) % 10)] ++ out)
def mT (k : Nat) : ByteArray := if k = 0 then ⟨#[109, 48]⟩ else ⟨#[109]⟩ ++ mTx k k ByteArray.empty
instance : Con CC 26 [] True (.d (.sl (stW.map .s))) := by
  constructor; intro _
  refine Den.pureI Tryz.func26 rfl 0 [.tmp 0] (by kernel_rfl) rfl rfl (by simp only [initE_nil, initE_cons, Nat.reduceAdd]; exact rfl) ?_
  repeat' first | (with_reducible first | refine nx' ?_ | refine n0 ?_ | refine rD ?_ | refine n1 ?_ | refine nilB_i fun b hb => ?_ | refine nP ?_ ?_ | refine nS fun K hK => ?_ | (refine n2 ?_ ?_ <;> intro h <;> first | subst (h : _ = true) | subst (h : _ = false) | skip) | refine And.intro ?_ ?_ | refine nK ‹Imp _ _› ?_) | exact nl | fail
  rfl
instance (a : Int) (l : List Rc) : Con CC 15 [.d (.agg [.i a, .sl (l.map encRc)])] (okRp ⟨a, l⟩ = true) (.d (.sl ((linR ⟨a, l⟩).map .s))) := by
  constructor; intro ho
  obtain ⟨h1, h2, h3, h4⟩ := okRp_parts ho
  simp only at h1 h2 h3 h4
  have e1 : (ByteArray.mk #[115, 116, 97, 116, 117, 115, 32]).size = 7 := rfl
  have sz := stW_size a.toNat
  have ls : stW.length = 7 := rfl
  refine Den.pureI Tryz.func15 rfl 1 [.tmp 2] (by kernel_rfl) rfl rfl (by simp only [initE_nil, initE_cons, Nat.reduceAdd]; exact rfl) ?_
  repeat' first | (with_reducible first | refine nx' ?_ | refine n0 ?_ | refine Wp.drawR (by decide +kernel) ?_ | refine Wp.drawSR [1, 4, 5, 6, 7, 8, 9] [false, true, false, false, true, true, true, true, true, true] (.op 1 [0,2,3] (.op 4 [0] (.op 5 [0] (.op 6 [0] (.op 7 [0] (.op 8 [] (.op 9 [] .done))))))) (by decide +kernel) ?_ | refine n1 ?_ | refine nilB_i fun b hb => ?_ | refine nP ?_ ?_ | refine nS fun K hK => ?_ | (refine n2 ?_ ?_ <;> intro h <;> first | subst (h : _ = true) | subst (h : _ = false) | skip) | refine And.intro ?_ ?_ | refine nK ‹Imp _ _› ?_) | exact nl | fail
  refine Wp.loopR (fun x : Nat × List ByteArray => ⟨[(1, .ref 0 0 0), (3, .msl 1 0 x.2.length), (4, .d (.i x.1))], [.var [.d (.i a), .d (.sl (l.map encRc))] false, .arr 1 (x.2.map .s) false]⟩) (fun x => l.length - x.1) (fun x => x.1 ≤ l.length ∧ x.2 = (l.take x.1).map recTB) (0, []) Weak.lo ⟨by simp, rfl⟩ ?_
  rintro ⟨i, ws⟩ ⟨hi, hw⟩ K hK
  simp only at hi hw ⊢
  have hlt : ws.length = i := by rw [hw, List.length_map, List.length_take]; omega
  by_cases hil : i < l.length
  · have e := take_recT hil
    have hki := h4 _ (getD_mem rc0 hil)
    repeat' first | (with_reducible first | refine nx' ?_ | refine n0 ?_ | refine Wp.drawR (by decide +kernel) ?_ | refine Wp.drawSR [1, 4, 5, 6, 7, 8, 9] [false, true, false, false, true, true, true, true, true, true] (.op 1 [0,2,3] (.op 4 [0] (.op 5 [0] (.op 6 [0] (.op 7 [0] (.op 8 [] (.op 9 [] .done))))))) (by decide +kernel) ?_ | refine n1 ?_ | refine nilB_i fun b hb => ?_ | refine nP ?_ ?_ | refine nS fun K hK => ?_ | (refine n2 ?_ ?_ <;> intro h <;> first | subst (h : _ = true) | subst (h : _ = false) | skip) | refine And.intro ?_ ?_ | refine nK ‹Imp _ _› ?_) | exact nl | fail
    exact ⟨(i + 1, ws ++ [recTB (l.getD i rc0)]), by simp only; omega, ⟨by simp only; omega, by rw [hw, e]⟩, Weak.cu⟩
  · obtain rfl : i = l.length := by omega
    rw [List.take_length] at hw
    repeat' first | (with_reducible first | refine nx' ?_ (by simp -implicitDefEqProofs (disch := omega) only [go_sem, e1, ls, ByteArray.size_append]; exact rfl) | refine n0 ?_ | refine Wp.drawR (by decide +kernel) ?_ | refine Wp.drawSR [1, 4, 5, 6, 7, 8, 9] [false, true, false, false, true, true, true, true, true, true] (.op 1 [0,2,3] (.op 4 [0] (.op 5 [0] (.op 6 [0] (.op 7 [0] (.op 8 [] (.op 9 [] .done))))))) (by decide +kernel) ?_ | refine n1 ?_ | refine nilB_i fun b hb => ?_ | refine nP ?_ ?_ | refine nS fun K hK => ?_ | (refine n2 ?_ ?_ <;> intro h <;> first | subst (h : _ = true) | subst (h : _ = false) | (simp only [FX, LX, e1, ls, ByteArray.size_append] at h) | skip) | refine And.intro ?_ ?_ | refine nK ‹Imp _ _› ?_) | exact nl | fail
    all_goals first | (rw [hw]; rfl) | skip
instance (k : Nat) : Con CC 21 [.d (.i k)] (k ≤ 1000000000) (.d (.s (mT k))) := by
  constructor; intro hk
  refine Den.pureI Tryz.func21 rfl 1 [.tmp 2] (by kernel_rfl) rfl rfl (by simp only [initE_nil, initE_cons, Nat.reduceAdd]; exact rfl) ?_
  repeat' first | (with_reducible first | refine nx' ?_ | refine n0 ?_ | refine rD ?_ | refine n1 ?_ | refine nilB_i fun b hb => ?_ | refine nP ?_ ?_ | refine nS fun K hK => ?_ | (refine n2 ?_ ?_ <;> intro h <;> first | subst (h : _ = true) | subst (h : _ = false) | skip) | refine And.intro ?_ ?_ | refine nK ‹Imp _ _› ?_) | exact nl | fail
  · have : k = 0 := by omega
    subst this; rfl
  have k0 : k ≠ 0 := by omega
  refine Wp.loopR (fun x : Nat × Nat × ByteArray => ⟨[(0, .d (.i x.2.1)), (3, .d (.s x.2.2))], []⟩) (fun x => x.2.1) (fun x => mTx x.1 x.2.1 x.2.2 = mTx k k ByteArray.empty ∧ x.2.1 ≤ x.1 ∧ x.2.2.size + x.2.1 ≤ 1000000000) (k, k, ByteArray.empty) Weak.lo ⟨rfl, Nat.le_refl _, by simp only [ByteArray.size_empty]; omega⟩ ?_
  rintro ⟨f, q, out⟩ ⟨hm, hq, hs⟩ K hK
  simp only at hm hq hs ⊢
  by_cases hq0 : q = 0
  · subst hq0
    have hmo : out = mTx k k ByteArray.empty := by rw [← hm]; cases f <;> simp [mTx]
    have s1 : (ByteArray.mk #[109]).size = 1 := rfl
    repeat' first | (with_reducible first | refine nx' ?_ (by simp -implicitDefEqProofs (disch := omega) only [go_sem, s1]; exact rfl) | refine n0 ?_ | refine rD ?_ | refine n1 ?_ | refine nilB_i fun b hb => ?_ | refine nP ?_ ?_ | refine nS fun K hK => ?_ | (refine n2 ?_ ?_ <;> intro h <;> first | subst (h : _ = true) | subst (h : _ = false) | (simp only [FX, LX, s1] at h) | skip) | refine And.intro ?_ ?_ | refine nK ‹Imp _ _› ?_) | exact nl | fail
    rw [mT, if_neg k0, hmo]
  · obtain ⟨f, rfl⟩ : ∃ g, f = g + 1 := ⟨f - 1, by omega⟩
    rw [mTx, if_neg hq0] at hm
    have s1 : (strB [IntKind.u8.wrap (48 + (q : Int) % 10)]).size = 1 := rfl
    repeat' first | (with_reducible first | refine nx' ?_ (by simp -implicitDefEqProofs (disch := omega) only [go_sem, s1]; exact rfl) | refine n0 ?_ | refine rD ?_ | refine n1 ?_ | refine nilB_i fun b hb => ?_ | refine nP ?_ ?_ | refine nS fun K hK => ?_ | (refine n2 ?_ ?_ <;> intro h <;> first | subst (h : _ = true) | subst (h : _ = false) | (simp only [FX, LX, s1] at h) | skip) | refine And.intro ?_ ?_ | refine nK ‹Imp _ _› ?_) | exact nl | fail
    refine ⟨(f, q / 10, strB [IntKind.u8.wrap (48 + (q : Int) % 10)] ++ out), by simp only; omega, ⟨hm, by simp only; omega, by simp only [ByteArray.size_append, s1]; omega⟩, ?_⟩
    simp only [show ((q / 10 : Nat) : Int) = (q : Int) / 10 by omega]
    exact Weak.cu
def mkS (k : Nat) (n : Nat) : List ByteArray := (List.range n).map fun i => mT (k + i)
theorem mkS_len (k n : Nat) : (mkS k n).length = n := by simp [mkS]
theorem mkS_succ (k n : Nat) : mkS k (n + 1) = mkS k n ++ [mT (k + n)] := by simp [mkS, List.range_succ]
theorem mkS_get {k n i : Nat} (h : i < n) : (mkS k n).getD i ByteArray.empty = mT (k + i) := by simp [mkS, List.getD, h]
theorem mkS_set {k : Nat} {es : List ByteArray} {i : Nat} (h : i < es.length) : (mkS k i ++ es.drop i).set i (mT (k + i)) = mkS k (i + 1) ++ es.drop (i + 1) := by
  rw [List.set_append_right _ _ (by rw [mkS_len]; exact Nat.le_refl _), mkS_len, Nat.sub_self, List.drop_eq_getElem_cons h, List.set_cons_zero, mkS_succ]; simp
theorem markStrs_c (os : List Ob) (o n : Nat) (k : Nat) (es : List ByteArray) (ho : o < os.length) (hb : os.all (Ob.bnd os.length) = true) (hn : n ≤ es.length) (hl : es.length ≤ 1048576) (hk : k ≤ 900000000) :
    CC 11 [.msl o 0 n, .d (.i k)] (os.set o (.arr 1 (es.map .s) false)) (.d (.i (k + n : Nat))) (os.set o (.arr 1 ((mkS k n ++ es.drop n).map .s) false)) := by
  have hg : ∀ X, (os.set o X)[o]? = some X := fun X => by rw [List.getElem?_set_self ho]
  have hs : ∀ X Y, (os.set o X).set o Y = os.set o Y := fun X Y => by simp
  refine Den.newG (vs := [.d (.i (k + n : Nat))]) Tryz.func11 rfl 2 os.length [.tmp 4] (by kernel_rfl) rfl rfl (by simp only [initE_nil, initE_cons, Nat.reduceAdd]; exact rfl) rfl (by simp) (by simp) rfl (by rw [List.length_set]; exact all_set' hb rfl) ?_
  repeat' first | (with_reducible first | refine nx' ?_ | refine n0 ?_ | refine rD ?_ | refine n1 ?_ | refine nilB_i fun b hb => ?_ | refine nP ?_ ?_ | refine nS fun K hK => ?_ | (refine n2 ?_ ?_ <;> intro h <;> first | subst (h : _ = true) | subst (h : _ = false) | skip) | refine And.intro ?_ ?_ | refine nK ‹Imp _ _› ?_) | exact nl | fail
  refine Wp.loopR (fun i : Nat => ⟨[(0, .msl o 0 n), (1, .d (.i (k + i : Nat))), (5, .d (.i i))], os.set o (.arr 1 ((mkS k i ++ es.drop i).map .s) false)⟩) (fun i => n - i) (fun i => i ≤ n) 0 (Weak.low (by simp -implicitDefEqProofs (disch := omega) only [go_sem, sub_nil, sub_cons, LX, Int.natCast_zero, Nat.add_zero, show mkS k 0 = [] from rfl]; try ((repeat' refine And.intro ?_ ?_) <;> first | rfl | trivial | (congr 3; omega) | (congr 1; omega)))) (by omega) ?_
  rintro i hi K hK
  have hln : (mkS k i ++ es.drop i).length = es.length := by rw [List.length_append, mkS_len, List.length_drop]; omega
  by_cases h : i < n
  · have hms := mkS_set (k := k) (es := es) (i := i) (by omega)
    repeat' first | (with_reducible first | refine nx' ?_ (by simp -implicitDefEqProofs (disch := omega) only [go_sem, hg, hs, hln, hms]; exact rfl) | refine n0 ?_ | refine rD ?_ | refine n1 ?_ | refine nilB_i fun b hb => ?_ | refine nP ?_ ?_ | refine nS fun K hK => ?_ | (refine n2 ?_ ?_ <;> intro h <;> first | subst (h : _ = true) | subst (h : _ = false) | (simp only [FX, LX, hg, hs, hln, hms] at h) | skip) | refine And.intro ?_ ?_ | refine nK ‹Imp _ _› ?_) | exact nl | fail
    all_goals first
      | exact ⟨i + 1, by omega, by omega, (Weak.low (by simp -implicitDefEqProofs (disch := omega) only [go_sem, sub_nil, sub_cons, LX, show ((k + (i + 1) : Nat) : Int) = ((k + i : Nat) : Int) + 1 by omega]; try ((repeat' refine And.intro ?_ ?_) <;> first | rfl | trivial | (congr 3; omega) | (congr 1; omega))))⟩
      | skip
  · obtain rfl : i = n := by omega
    repeat' first | (with_reducible first | refine nx' ?_ (by simp -implicitDefEqProofs (disch := omega) only [go_sem, hg, hs]; exact rfl) | refine n0 ?_ | refine rD ?_ | refine n1 ?_ | refine nilB_i fun b hb => ?_ | refine nP ?_ ?_ | refine nS fun K hK => ?_ | (refine n2 ?_ ?_ <;> intro h <;> first | subst (h : _ = true) | subst (h : _ = false) | (simp only [FX, LX, hg, hs] at h) | skip) | refine And.intro ?_ ?_ | refine nK ‹Imp _ _› ?_) | exact nl | fail
    exact finG_of [(4, .d (.i (k + i : Nat)))] [] (by rw [List.append_nil]; exact Weak.lo)
instance (l : List ByteArray) (k : Nat) : Con CC 12 [.d (.sl (l.map .s)), .d (.i k)] (l.length ≤ 1048576 ∧ k ≤ 900000000 ∧ l = mkS k l.length) (.d (.i (k + l.length : Nat))) := by
  constructor; intro ⟨hl, h1, he⟩
  refine Den.pureI Tryz.func12 rfl 2 [.tmp 4] (by kernel_rfl) rfl rfl (by simp only [initE_nil, initE_cons, Nat.reduceAdd]; exact rfl) ?_
  repeat' first | (with_reducible first | refine nx' ?_ | refine n0 ?_ | refine Wp.drawR (by decide +kernel) ?_ | refine Wp.drawSR [5, 6] [false, false, false, false, false, true, true] (.op 5 [0,1,2,3] (.op 6 [] .done)) (by decide +kernel) ?_ | refine n1 ?_ | refine nilB_i fun b hb => ?_ | refine nP ?_ ?_ | refine nS fun K hK => ?_ | (refine n2 ?_ ?_ <;> intro h <;> first | subst (h : _ = true) | subst (h : _ = false) | skip) | refine And.intro ?_ ?_ | refine nK ‹Imp _ _› ?_) | exact nl | fail
  refine Wp.loopR (fun i : Nat => ⟨[(0, .d (.sl (l.map .s))), (1, .d (.i (k + i : Nat))), (5, .d (.i i))], []⟩) (fun i => l.length - i) (fun i => i ≤ l.length) 0 (Weak.low (by simp -implicitDefEqProofs (disch := omega) only [go_sem, sub_nil, sub_cons, LX, Int.natCast_zero, Nat.add_zero]; try ((repeat' refine And.intro ?_ ?_) <;> first | rfl | trivial | (congr 3; omega) | (congr 1; omega)))) (by omega) ?_
  rintro i hi K hK
  by_cases h : i < l.length
  · have hg : l.getD i ByteArray.empty = mT (k + i) := by rw [he]; exact mkS_get h
    repeat' first | (with_reducible first | refine nx' ?_ (by simp -implicitDefEqProofs (disch := omega) only [go_sem, hg, tl_beq]; exact rfl) | refine n0 ?_ | refine Wp.drawR (by decide +kernel) ?_ | refine Wp.drawSR [5, 6] [false, false, false, false, false, true, true] (.op 5 [0,1,2,3] (.op 6 [] .done)) (by decide +kernel) ?_ | refine n1 ?_ | refine nilB_i fun b hb => ?_ | refine nP ?_ ?_ | refine nS fun K hK => ?_ | (refine n2 ?_ ?_ <;> intro h <;> first | subst (h : _ = true) | subst (h : _ = false) | (simp only [FX, LX, hg, tl_beq] at h) | skip) | refine And.intro ?_ ?_ | refine nK ‹Imp _ _› ?_) | exact nl | fail
    · exact absurd trivial h
    · exact ⟨i + 1, by omega, by omega, (Weak.low (by simp -implicitDefEqProofs (disch := omega) only [go_sem, sub_nil, sub_cons, LX, show ((k + (i + 1) : Nat) : Int) = ((k + i : Nat) : Int) + 1 by omega]; try ((repeat' refine And.intro ?_ ?_) <;> first | rfl | trivial | (congr 3; omega) | (congr 1; omega))))⟩
  · obtain rfl : i = l.length := by omega
    repeat' first | (with_reducible first | refine nx' ?_ | refine n0 ?_ | refine Wp.drawR (by decide +kernel) ?_ | refine Wp.drawSR [5, 6] [false, false, false, false, false, true, true] (.op 5 [0,1,2,3] (.op 6 [] .done)) (by decide +kernel) ?_ | refine n1 ?_ | refine nilB_i fun b hb => ?_ | refine nP ?_ ?_ | refine nS fun K hK => ?_ | (refine n2 ?_ ?_ <;> intro h <;> first | subst (h : _ = true) | subst (h : _ = false) | skip) | refine And.intro ?_ ?_ | refine nK ‹Imp _ _› ?_) | exact nl | fail
instance (l m : List ByteArray) : Con CC 8 [.d (.sl (l.map .s)), .d (.sl (m.map .s))] (l.length ≤ 1048576 ∧ m.length ≤ 1048576) (.d (.b (decide (l = m)))) := by
  constructor; intro ⟨hl, hm⟩
  refine Den.pureI Tryz.func8 rfl 2 [.tmp 4] (by kernel_rfl) rfl rfl (by simp only [initE_nil, initE_cons, Nat.reduceAdd]; exact rfl) ?_
  repeat' first | (with_reducible first | refine nx' ?_ (by simp -implicitDefEqProofs (disch := omega) only [go_sem, tl_beq]; exact rfl) | refine n0 ?_ | refine rD ?_ | refine n1 ?_ | refine nilB_i fun b hb => ?_ | refine nP ?_ ?_ | refine nS fun K hK => ?_ | (refine n2 ?_ ?_ <;> intro h <;> first | subst (h : _ = true) | subst (h : _ = false) | (simp only [FX, LX, tl_beq] at h) | skip) | refine And.intro ?_ ?_ | refine nK ‹Imp _ _› ?_) | exact nl | fail
  · congr 3; rw [eq_comm, decide_eq_false_iff_not]; rintro rfl; exact h rfl
  refine Wp.loopR (fun i : Nat => ⟨[(0, .d (.sl (l.map .s))), (1, .d (.sl (m.map .s))), (5, .d (.i i))], []⟩) (fun i => l.length - i) (fun i => i ≤ l.length ∧ l.take i = m.take i) 0 Weak.lo ⟨by simp, by simp⟩ ?_
  rintro i ⟨hi, hd⟩ K hK
  repeat' first | (with_reducible first | refine nx' ?_ (by simp -implicitDefEqProofs (disch := omega) only [go_sem, tl_beq]; exact rfl) | refine n0 ?_ | refine rD ?_ | refine n1 ?_ | refine nilB_i fun b hb => ?_ | refine nP ?_ ?_ | refine nS fun K hK => ?_ | (refine n2 ?_ ?_ <;> intro h <;> first | subst (h : _ = true) | subst (h : _ = false) | (simp only [FX, LX, tl_beq] at h) | skip) | refine And.intro ?_ ?_ | refine nK ‹Imp _ _› ?_) | exact nl | fail
  · congr 3; rw [eq_comm, decide_eq_false_iff_not]; exact ne_of_getD (d := ByteArray.empty) (by simpa using h)
  · exact ⟨i + 1, by omega, ⟨by omega, take_eq_succ ByteArray.empty (by omega) (by omega) hd (by simpa using h)⟩, Weak.lo⟩
  · congr 3; rw [eq_comm, decide_eq_true_eq]; exact take_all (by omega) (by omega) hd
end Go.PL
