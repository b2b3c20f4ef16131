/- A plain machine, sound for the given model, and contracts of functions over it, part 29: RN2. Nothing is assumed. -/
import Derived.Test.YtedbifiejciocaeGreatDoorRN
set_option linter.unusedSimpArgs false
set_option linter.unusedVariables false
set_option linter.unusedSectionVars false
/- RN2 -/
namespace Go.PL
open Go Go.Proofs
set_option maxRecDepth 10000
set_option maxHeartbeats 4000000
set_option linter.unusedSimpArgs false
set_option linter.unusedVariables false
theorem strT_ext (l : List UInt8) (a b : Nat) : (strT l).extract a b = strT ((l.drop a).take (b - a)) := by
  unfold strT
  apply ByteArray.ext
  simp [ByteArray.data_extract]
set_option maxHeartbeats 4000000 in
theorem readNat_c (hA : ∀ l : List UInt8, 1 ≤ l.length → l.length ≤ 4 → (∀ c ∈ l, isDg c) → CC 64 [.d (.s (strT l))] [] (.tup [.d (.i (dv l)), .d (.val .nilIface)]) [])
    (l : List UInt8) (ht : l.length ≤ 1048576) : CC 41 [.d (.s (strT l))] [] (.tup [.d (encD (digs (rdN l))), .d (.b (okN l))]) [] := by
  have hsz : (strT l).size = l.length := strT_size
  have hdt : (strT l).data.toList = l := rfl
  have fin : okN l = false → V.tup [V.d (D.sl []), V.d (D.b false)] = V.tup [V.d (encD (digs (rdN l))), V.d (D.b (okN l))] := fun h => by rw [rdN_no h, h, digs_zero]; rfl
  have hm : ∀ i, i < l.length → l.getD i 0 ∈ l := fun i hi => getD_mem 0 hi
  by_cases hl1 : 1 ≤ l.length
  · by_cases h160 : l.length ≤ 160
    · by_cases h48 : l.getD 0 0 = 48 ∧ 1 < l.length
      · have h49 := u48.2 h48.1
        refine Den.pureI Tryz.func41 rfl 1 [.tmp 2, .tmp 3] (by kernel_rfl) rfl rfl (by simp only [initE_nil, initE_cons, Nat.reduceAdd]; exact rfl) ?_
        repeat' first | (with_reducible first | refine nx' ?_ (by simp -implicitDefEqProofs (disch := omega) only [go_sem, hsz, hdt, h49]; exact rfl) | refine n0 ?_ | refine Wp.drawR (by decide +kernel) ?_ | refine Wp.drawSR [2, 3, 7, 8] [false, false, true, true, false, false, false, true, true] (.op 2 [0,4,5,6] (.op 3 [4,5,6] (.op 7 [4,5,6] (.op 8 [] .done)))) (by decide +kernel) ?_ | refine n1 ?_ | refine nilB_i fun b hb => ?_ | refine nP ?_ ?_ | refine nS fun K hK => ?_ | (refine n2 ?_ ?_ <;> intro h <;> first | subst (h : _ = true) | subst (h : _ = false) | (simp only [FX, LX, hsz, hdt, h49] at h) | skip) | refine And.intro ?_ ?_ | refine nK ‹Imp _ _› ?_) | exact nl | fail
        all_goals exact fin (okN_not fun h => by have := h.2.2.1 h48.1; omega)
      · have h49 : ((l.getD 0 0).toNat : Int) = 48 → l.length ≤ 1 := fun h => by have := mt (And.intro (u48.1 h)) h48; omega
        refine Den.pureI Tryz.func41 rfl 1 [.tmp 2, .tmp 3] (by kernel_rfl) rfl rfl (by simp only [initE_nil, initE_cons, Nat.reduceAdd]; exact rfl) ?_
        repeat' first | (with_reducible first | refine nx' ?_ (by simp -implicitDefEqProofs (disch := omega) only [go_sem, hsz, hdt]; exact rfl) | refine n0 ?_ | refine Wp.drawR (by decide +kernel) ?_ | refine Wp.drawSR [2, 3, 7, 8] [false, false, true, true, false, false, false, true, true] (.op 2 [0,4,5,6] (.op 3 [4,5,6] (.op 7 [4,5,6] (.op 8 [] .done)))) (by decide +kernel) ?_ | refine n1 ?_ | refine nilB_i fun b hb => ?_ | refine nP ?_ ?_ | refine nS fun K hK => ?_ | (refine n2 ?_ ?_ <;> intro h <;> first | subst (h : _ = true) | subst (h : _ = false) | (simp only [FX, LX, hsz, hdt] at h) | skip) | refine And.intro ?_ ?_ | refine nK ‹Imp _ _› ?_) | exact nl | fail
        all_goals
          clear h
          refine Wp.loopR (fun i : Nat => ⟨[(0, .d (.s (strT l))), (28, .d (.i l.length)), (29, .d (.i i))], []⟩) (fun i => l.length - i) (fun i => i ≤ l.length ∧ ∀ t, t < i → isDg (l.getD t 0)) 0 Weak.lo ⟨by simp, by intro t ht; omega⟩ ?_
          rintro i ⟨hi, hd⟩ K hK
          by_cases hil : i < l.length
          · repeat' first | (with_reducible first | refine nx' ?_ (by simp -implicitDefEqProofs (disch := omega) only [go_sem, hsz, hdt]; exact rfl) | refine n0 ?_ | refine Wp.drawR (by decide +kernel) ?_ | refine Wp.drawSR [2, 3, 7, 8] [false, false, true, true, false, false, false, true, true] (.op 2 [0,4,5,6] (.op 3 [4,5,6] (.op 7 [4,5,6] (.op 8 [] .done)))) (by decide +kernel) ?_ | refine n1 ?_ | refine nilB_i fun b hb => ?_ | refine nP ?_ ?_ | refine nS fun K hK => ?_ | (refine n2 ?_ ?_ <;> intro h <;> first | subst (h : _ = true) | subst (h : _ = false) | (simp only [FX, LX, hsz, hdt] at h) | skip) | refine And.intro ?_ ?_ | refine nK ‹Imp _ _› ?_) | exact nl | fail
            all_goals first
              | exact ⟨i + 1, by omega, ⟨by omega, fun t ht => by rcases (show t < i ∨ t = i by omega) with e | e; exact hd t e; subst e; unfold isDg; omega⟩, Weak.lo⟩
              | exact fin (okN_not fun h => by have := h.2.2.2 _ (hm i hil); unfold isDg at this; omega)
              | skip
          · have hall : ∀ c ∈ l, isDg c := fun c hc => by
              obtain ⟨t, ht, rfl⟩ := List.mem_iff_getElem.1 hc
              have := hd t (by omega)
              rwa [List.getD, List.getElem?_eq_getElem ht] at this
            have hok : okN l = true := okN_iff.2 ⟨hl1, h160, fun h => by have := h49 (u48.2 h); omega, hall⟩
            repeat' first | (with_reducible first | refine nx' ?_ (by simp -implicitDefEqProofs (disch := omega) only [go_sem, hsz, hdt]; exact rfl) | refine n0 ?_ | refine Wp.drawR (by decide +kernel) ?_ | refine Wp.drawSR [2, 3, 7, 8] [false, false, true, true, false, false, false, true, true] (.op 2 [0,4,5,6] (.op 3 [4,5,6] (.op 7 [4,5,6] (.op 8 [] .done)))) (by decide +kernel) ?_ | refine n1 ?_ | refine nilB_i fun b hb => ?_ | refine nP ?_ ?_ | refine nS fun K hK => ?_ | (refine n2 ?_ ?_ <;> intro h <;> first | subst (h : _ = true) | subst (h : _ = false) | (simp only [FX, LX, hsz, hdt] at h) | skip) | refine And.intro ?_ ?_ | refine nK ‹Imp _ _› ?_) | exact nl | fail
            refine Wp.loopR (fun x : Nat × List Int => ⟨[(0, .d (.s (strT (l.take (l.length - 4 * x.1))))), (5, .msl 0 0 x.2.length)], [.arr 1 (x.2.map .i) false]⟩) (fun x => l.length + 4 - 4 * x.1) (fun x => 4 * x.1 ≤ l.length + 3 ∧ x.2.length = x.1 ∧ Dig x.2 ∧ val x.2 + 10000 ^ x.1 * (dv (l.take (l.length - 4 * x.1)) : Int) = dv l) (0, []) (Weak.low (by simp -implicitDefEqProofs (disch := omega) only [go_sem, sub_nil, sub_cons, LX, Nat.mul_zero, Nat.sub_zero, List.take_length]; try ((repeat' refine And.intro ?_ ?_) <;> first | rfl | trivial | (congr 3; omega) | (congr 1; omega)))) ⟨by simp, rfl, (by intro x h; cases h), by simp [val]⟩ ?_
            rintro ⟨k, out⟩ ⟨hk, hlo, hdo, hv⟩ K2 hK2
            simp only at hk hlo hdo hv ⊢
            have hs2 : (strT (l.take (l.length - 4 * k))).size = l.length - 4 * k := by rw [strT_size, List.length_take]; omega
            by_cases hke : 4 * k < l.length
            · obtain ⟨b, hb⟩ : ∃ b, b = l.length - 4 * k - 4 := ⟨_, rfl⟩
              obtain ⟨j, hj⟩ : ∃ j, j = l.length - 4 * k - b := ⟨_, rfl⟩
              have ej : b + j = l.length - 4 * k := by omega
              have hmx : (if ((l.length - 4 * k : Nat) : Int) - 4 < 0 then 0 else ((l.length - 4 * k : Nat) : Int) - 4) = (b : Int) := by split <;> omega
              have hex : (strT (l.take (l.length - 4 * k))).extract b (l.length - 4 * k) = strT ((l.drop b).take j) := by
                rw [strT_ext, List.drop_take, List.take_take, ← hj, Nat.min_self]
              have hex2 : (strT (l.take (l.length - 4 * k))).extract 0 b = strT (l.take b) := by
                rw [strT_ext, List.drop_zero, Nat.sub_zero, List.take_take, Nat.min_eq_left (by omega)]
              have hb2 : l.length - 4 * (k + 1) = b := by omega
              have hdb : ∀ c ∈ (l.drop b).take j, isDg c := fun c hc => hall c (List.mem_of_mem_drop (List.mem_of_mem_take hc))
              have hjl : ((l.drop b).take j).length = j := by rw [List.length_take, List.length_drop]; omega
              have hn := dv_lt hdb
              have hn4 : dv ((l.drop b).take j) < 10 ^ 4 := Nat.lt_of_lt_of_le hn (Nat.pow_le_pow_right (by omega) (by omega))
              have cA := hA ((l.drop b).take j) (by omega) (by omega) hdb
              repeat' first | (with_reducible first | refine nx' ?_ (by simp -implicitDefEqProofs (disch := omega) only [go_sem, hs2, hmx, Int.toNat_natCast, hex, hex2]; exact rfl) | refine n0 ?_ | refine Wp.drawR (by decide +kernel) ?_ | refine Wp.drawSR [2, 3, 7, 8] [false, false, true, true, false, false, false, true, true] (.op 2 [0,4,5,6] (.op 3 [4,5,6] (.op 7 [4,5,6] (.op 8 [] .done)))) (by decide +kernel) ?_ | refine n1 ?_ | refine nilB_i fun b hb => ?_ | refine nPc (cA) ?_ | refine nP ?_ ?_ | refine nS fun K hK => ?_ | (refine n2 ?_ ?_ <;> intro h <;> first | subst (h : _ = true) | subst (h : _ = false) | (simp only [FX, LX, hs2, hmx, Int.toNat_natCast, hex, hex2] at h) | skip) | refine And.intro ?_ ?_ | refine nK ‹Imp _ _› ?_) | exact nl | fail
              exact ⟨(k + 1, out ++ [((dv ((l.drop b).take j) : Nat) : Int)]), by simp only; omega, ⟨by simp only; omega, by simp [hlo], fun x hx => by
                    rcases List.mem_append.1 hx with h | h
                    · exact hdo x h
                    · rw [List.mem_singleton.1 h]; omega, by
                    have hs := dv_part (l := l) (b := b) (j := j) (by omega)
                    rw [← ej, hs] at hv
                    have hz : dv (l.take b) * 10 ^ j = dv (l.take b) * 10000 := by
                      by_cases hb0 : b = 0
                      · rw [hb0, List.take_zero, dv_nil, Nat.zero_mul, Nat.zero_mul]
                      · rw [show j = 4 by omega]
                    rw [hz] at hv
                    show val (out ++ [_]) + 10000 ^ (k + 1) * ((dv (l.take (l.length - 4 * (k + 1))) : Nat) : Int) = _
                    rw [hb2, val_snoc, hlo, ← hv, Int.pow_succ]
                    generalize (10000 : Int) ^ k = p
                    generalize dv (l.take b) = A
                    generalize dv ((l.drop b).take j) = n
                    have hc : ((A * 10000 + n : Nat) : Int) = (A : Int) * 10000 + (n : Int) := by omega
                    rw [hc]
                    grind⟩, (Weak.cut (by simp -implicitDefEqProofs (disch := omega) only [go_sem, sub_nil, sub_cons, LX, hb2]; try ((repeat' refine And.intro ?_ ?_) <;> first | rfl | trivial | (congr 3; omega) | (congr 1; omega))) rfl (by simp) rfl rfl)⟩
            · repeat' first | (with_reducible first | refine nx' ?_ (by simp -implicitDefEqProofs (disch := omega) only [go_sem, hs2]; exact rfl) | refine n0 ?_ | refine Wp.drawR (by decide +kernel) ?_ | refine Wp.drawSR [2, 3, 7, 8] [false, false, true, true, false, false, false, true, true] (.op 2 [0,4,5,6] (.op 3 [4,5,6] (.op 7 [4,5,6] (.op 8 [] .done)))) (by decide +kernel) ?_ | refine n1 ?_ | refine nilB_i fun b hb => ?_ | refine nP ?_ ?_ | refine nS fun K hK => ?_ | (refine n2 ?_ ?_ <;> intro h <;> first | subst (h : _ = true) | subst (h : _ = false) | (simp only [FX, LX, hs2] at h) | skip) | refine And.intro ?_ ?_ | refine nK ‹Imp _ _› ?_) | exact nl | fail
              rw [show l.length - 4 * k = 0 by omega, List.take_zero, dv_nil, Int.natCast_zero, Int.mul_zero, Int.add_zero] at hv
              rw [hok, rdN_yes hok, ← digs_val hdo, hv]
              rfl
    · refine Den.pureI Tryz.func41 rfl 1 [.tmp 2, .tmp 3] (by kernel_rfl) rfl rfl (by simp only [initE_nil, initE_cons, Nat.reduceAdd]; exact rfl) ?_
      repeat' first | (with_reducible first | refine nx' ?_ (by simp -implicitDefEqProofs (disch := omega) only [go_sem, hsz, hdt]; exact rfl) | refine n0 ?_ | refine Wp.drawR (by decide +kernel) ?_ | refine Wp.drawSR [2, 3, 7, 8] [false, false, true, true, false, false, false, true, true] (.op 2 [0,4,5,6] (.op 3 [4,5,6] (.op 7 [4,5,6] (.op 8 [] .done)))) (by decide +kernel) ?_ | refine n1 ?_ | refine nilB_i fun b hb => ?_ | refine nP ?_ ?_ | refine nS fun K hK => ?_ | (refine n2 ?_ ?_ <;> intro h <;> first | subst (h : _ = true) | subst (h : _ = false) | (simp only [FX, LX, hsz, hdt] at h) | skip) | refine And.intro ?_ ?_ | refine nK ‹Imp _ _› ?_) | exact nl | fail
      all_goals exact fin (okN_not fun h => by omega)
  · refine Den.pureI Tryz.func41 rfl 1 [.tmp 2, .tmp 3] (by kernel_rfl) rfl rfl (by simp only [initE_nil, initE_cons, Nat.reduceAdd]; exact rfl) ?_
    repeat' first | (with_reducible first | refine nx' ?_ (by simp -implicitDefEqProofs (disch := omega) only [go_sem, hsz, hdt]; exact rfl) | refine n0 ?_ | refine Wp.drawR (by decide +kernel) ?_ | refine Wp.drawSR [2, 3, 7, 8] [false, false, true, true, false, false, false, true, true] (.op 2 [0,4,5,6] (.op 3 [4,5,6] (.op 7 [4,5,6] (.op 8 [] .done)))) (by decide +kernel) ?_ | refine n1 ?_ | refine nilB_i fun b hb => ?_ | refine nP ?_ ?_ | refine nS fun K hK => ?_ | (refine n2 ?_ ?_ <;> intro h <;> first | subst (h : _ = true) | subst (h : _ = false) | (simp only [FX, LX, hsz, hdt] at h) | skip) | refine And.intro ?_ ?_ | refine nK ‹Imp _ _› ?_) | exact nl | fail
    all_goals exact fin (okN_not fun h => by omega)
end Go.PL
