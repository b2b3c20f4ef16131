/- A plain machine, sound for the given model, and contracts of functions over it, part 30: AG AH. Nothing is assumed. -/
import Derived.Test.YtgfncbcnplfpdabGreatDoorAF
set_option linter.unusedSimpArgs false
set_option linter.unusedVariables false
set_option linter.unusedSectionVars false
/- AG -/
namespace Go.PL
open Go Go.Proofs
set_option maxRecDepth 10000
set_option linter.unusedSimpArgs false
set_option linter.unusedVariables false
instance (m n : Nat) : Con CC 97 [.d (encD (digs m)), .d (encD (digs n))] ((digs m).length < 4096 ∧ (digs n).length < 4096) (.d (encD (digs (m * n)))) := by
  constructor; intro ⟨hm, hn⟩
  have hdm := Dig.digs m
  have hdn := Dig.digs n
  have hvm := val_digs m
  have hvn := val_digs n
  generalize digs m = a at *
  generalize digs n = b at *
  refine Den.pureI Tryz.func97 rfl 2 [.tmp 4] (by kernel_rfl) rfl rfl (by simp only [initE_nil, initE_cons, Nat.reduceAdd]; exact rfl) ?_
  repeat' first | ((with_reducible first | refine wC ?_ | refine wC0 ?_); (first | with_reducible refine pN ?_ rfl ?_ | (refine pcDn ?_; first | with_reducible refine pN ?_ rfl ?_))) | (with_reducible refine nx ?_; simp -implicitDefEqProofs (disch := omega) only [go_sem]) | (with_reducible show Wp _ _ _ _ _ _; first | refine rR ?_ | refine Wp.skip ?_ | refine Wp.ret ?_ | refine Wp.exit ?_ | refine rD ?_ | refine Wp.label ?_ | refine wS fun K hK => ?_ | refine wB fun K hK => ?_ | refine wE ?_) | (with_reducible show _ ∧ _; (first | refine an ?_ | refine And.intro ?_ ?_)) | (with_reducible show bcase _ _ _; first | refine bcaseT ?_ | refine bcaseF ?_ | (refine bcase_s ?_ ?_ <;> intro h <;> (first | subst h | (try simp only [FX, LX] at h)))) | (with_reducible show gcase _ _ _ _; first | refine gcaseTT ?_ | refine gcaseTF ?_ | refine gcaseFT ?_ | refine gcaseFF ?_ | refine gcaseU ?_ | ((first | refine wGt ?_ ?_ | refine wGf ?_ ?_) <;> intro h <;> (first | subst h | (simp only [h]; (try simp only [FX, LX] at h))))) | ((with_reducible refine wCq ?_); (first | with_reducible refine pQ ?_ rfl (by first | exact .inl rfl | exact .inr rfl) ?_ | (refine pcDQn ?_; first | with_reducible refine pQ ?_ rfl (by first | exact .inl rfl | exact .inr rfl) ?_))) | (with_reducible first | refine wG ?_ | refine wGq ?_ | refine r1_append ?_ | refine nilB_pos (by omega) ?_ | refine nilB_i fun b hb => ?_) | (with_reducible refine Imp.out ‹Imp _ _› ?_; (try simp only [TX, Nat.reduceBEq])) | assumption | omega | exact trivial | (simp only [LX]; omega)
  have e0 : ((a.length : Int) + b.length).toNat = a.length + b.length := by omega
  simp only [e0]
  refine Wp.loopR (fun x : Nat × List Int => ⟨[(1, .d (encD b)), (5, .msl 0 0 x.2.length), (16, .d (encD a)), (17, .d (.i a.length)), (18, .d (.i x.1))], [.arr 1 (x.2.map .i) false]⟩) (fun x => a.length - x.1)
    (fun x => x.1 ≤ a.length ∧ x.2.length = a.length + b.length ∧ Dig x.2 ∧ val x.2 = val (a.take x.1) * val b) (0, List.replicate (a.length + b.length) 0)
    (Weak.low (by simp -implicitDefEqProofs (disch := omega) only [go_sem, sub_nil, sub_cons, LX]; try ((repeat' refine And.intro ?_ ?_) <;> first | rfl | trivial | (congr 3; omega) | (congr 1; omega)))) ⟨by simp, by simp, Dig.zeros _, by rw [val_zeros]; simp [val]⟩ ?_
  rintro ⟨i, o⟩ ⟨hi, hl, hd, hv⟩ K hK
  simp only at hi hl hd hv ⊢
  have ga := hdm.get i
  repeat' first | ((with_reducible first | refine wC ?_ | refine wC0 ?_); (first | with_reducible refine pN ?_ rfl ?_ | (refine pcDn ?_; first | with_reducible refine pN ?_ rfl ?_))) | (with_reducible refine nx ?_; simp -implicitDefEqProofs (disch := omega) only [go_sem]) | (with_reducible show Wp _ _ _ _ _ _; first | refine rR ?_ | refine Wp.skip ?_ | refine Wp.ret ?_ | refine Wp.exit ?_ | refine rD ?_ | refine Wp.label ?_ | refine wS fun K hK => ?_ | refine wB fun K hK => ?_ | refine wE ?_) | (with_reducible show _ ∧ _; (first | refine an ?_ | refine And.intro ?_ ?_)) | (with_reducible show bcase _ _ _; first | refine bcaseT ?_ | refine bcaseF ?_ | (refine bcase_s ?_ ?_ <;> intro h <;> (first | subst h | (try simp only [FX, LX] at h)))) | (with_reducible show gcase _ _ _ _; first | refine gcaseTT ?_ | refine gcaseTF ?_ | refine gcaseFT ?_ | refine gcaseFF ?_ | refine gcaseU ?_ | ((first | refine wGt ?_ ?_ | refine wGf ?_ ?_) <;> intro h <;> (first | subst h | (simp only [h]; (try simp only [FX, LX] at h))))) | ((with_reducible refine wCq ?_); (first | with_reducible refine pQ ?_ rfl (by first | exact .inl rfl | exact .inr rfl) ?_ | (refine pcDQn ?_; first | with_reducible refine pQ ?_ rfl (by first | exact .inl rfl | exact .inr rfl) ?_))) | (with_reducible first | refine wG ?_ | refine wGq ?_ | refine r1_append ?_ | refine nilB_pos (by omega) ?_ | refine nilB_i fun b hb => ?_) | (with_reducible refine Imp.out ‹Imp _ _› ?_; (try simp only [TX, Nat.reduceBEq])) | assumption | omega | exact trivial | (simp only [LX]; omega)
  · have hia : i < a.length := by omega
    refine Wp.loopR (fun y : Nat × Int × List Int => ⟨[(1, .d (encD b)), (5, .msl 0 0 y.2.2.length), (6, .d (.i i)), (7, .d (.i (a.getD i 0))), (8, .d (.i y.2.1)), (9, .d (.i y.1)), (16, .d (encD a)), (17, .d (.i a.length)), (18, .d (.i i))], [.arr 1 (y.2.2.map .i) false]⟩) (fun y => b.length + 1 - y.1)
      (fun y => y.1 ≤ b.length + 1 ∧ y.2.2.length = a.length + b.length ∧ Dig y.2.2 ∧ 0 ≤ y.2.1 ∧ y.2.1 ≤ 9999 ∧ val y.2.2 + 10000 ^ (i + y.1) * y.2.1 = val o + 10000 ^ i * (a.getD i 0 * val (b.take y.1))) (0, 0, o)
      (Weak.low (by simp -implicitDefEqProofs (disch := omega) only [go_sem, sub_nil, sub_cons, LX]; try ((repeat' refine And.intro ?_ ?_) <;> first | rfl | trivial | (congr 3; omega) | (congr 1; omega)))) ⟨by simp, hl, hd, by simp, by simp, by simp [val]⟩ ?_
    rintro ⟨j, c, l⟩ ⟨hj, hll, hdl, hc0, hc1, hvl⟩ K2 hK2
    simp only at hj hll hdl hc0 hc1 hvl ⊢
    have gb := hdn.get j
    have gl := hdl.get (i + j)
    have hp0 : 0 ≤ a.getD i 0 * b.getD j 0 := Int.mul_nonneg (by omega) (by omega)
    have hp1 : a.getD i 0 * b.getD j 0 ≤ 9999 * 9999 := Int.mul_le_mul (by omega) (by omega) (by omega) (by omega)
    have hjb : j < b.length ∨ 0 < c → j ≤ b.length := by
      rintro (h1 | h1)
      · omega
      · rcases Nat.lt_or_ge j b.length with h2 | h2
        · omega
        · rw [hv, List.take_of_length_le h2] at hvl
          have := mul_room hdm hdn hdl (by omega) (by omega : 1 ≤ c) h2 hvl
          omega
    have hij : ((i : Int) + j).toNat = i + j := by omega
    repeat' first | ((with_reducible first | refine wC ?_ | refine wC0 ?_); (first | with_reducible refine pN ?_ rfl ?_ | (refine pcDn ?_; first | with_reducible refine pN ?_ rfl ?_))) | (with_reducible refine nx ?_; simp -implicitDefEqProofs (disch := omega) only [go_sem, hij]) | (with_reducible show Wp _ _ _ _ _ _; first | refine rR ?_ | refine Wp.skip ?_ | refine Wp.ret ?_ | refine Wp.exit ?_ | refine rD ?_ | refine Wp.label ?_ | refine wS fun K hK => ?_ | refine wB fun K hK => ?_ | refine wE ?_) | (with_reducible show _ ∧ _; (first | refine an ?_ | refine And.intro ?_ ?_)) | (with_reducible show bcase _ _ _; first | refine bcaseT ?_ | refine bcaseF ?_ | (refine bcase_s ?_ ?_ <;> intro h <;> (first | subst h | (try simp only [FX, LX, hij] at h)))) | (with_reducible show gcase _ _ _ _; first | refine gcaseTT ?_ | refine gcaseTF ?_ | refine gcaseFT ?_ | refine gcaseFF ?_ | refine gcaseU ?_ | ((first | refine wGt ?_ ?_ | refine wGf ?_ ?_) <;> intro h <;> (first | subst h | (simp only [h]; (try simp only [FX, LX, hij] at h))))) | ((with_reducible refine wCq ?_); (first | with_reducible refine pQ ?_ rfl (by first | exact .inl rfl | exact .inr rfl) ?_ | (refine pcDQn ?_; first | with_reducible refine pQ ?_ rfl (by first | exact .inl rfl | exact .inr rfl) ?_))) | (with_reducible first | refine wG ?_ | refine wGq ?_ | refine r1_append ?_ | refine nilB_pos (by omega) ?_ | refine nilB_i fun b hb => ?_) | (with_reducible refine Imp.out ‹Imp _ _› ?_; (try simp only [TX, Nat.reduceBEq])) | assumption | omega | exact trivial | (simp only [LX]; omega)
    · have hjl := hjb (.inl (by omega))
      have h3 := mul_step (n := c + a.getD i 0 * b.getD j 0 + l.getD (i + j) 0) (by omega) (by omega) hvl
      exact ⟨(j + 1, (c + a.getD i 0 * b.getD j 0 + l.getD (i + j) 0) / 10000, l.set (i + j) ((c + a.getD i 0 * b.getD j 0 + l.getD (i + j) 0) % 10000)), by simp only; omega,
        ⟨by simp only; omega, by simp [hll], hdl.set _ (by omega) (by omega), by simp only; omega, by simp only; omega, h3⟩, (Weak.low (by simp -implicitDefEqProofs (disch := omega) only [go_sem, sub_nil, sub_cons, LX]; try ((repeat' refine And.intro ?_ ?_) <;> first | rfl | trivial | (congr 3; omega) | (congr 1; omega))))⟩
    · have hjl := hjb (.inr (by omega))
      have hz : b.getD j 0 = 0 := getD_over (by omega)
      have h3 := mul_step (n := c + l.getD (i + j) 0) (by omega) (by rw [hz, Int.mul_zero]; omega) hvl
      exact ⟨(j + 1, (c + l.getD (i + j) 0) / 10000, l.set (i + j) ((c + l.getD (i + j) 0) % 10000)), by simp only; omega,
        ⟨by simp only; omega, by simp [hll], hdl.set _ (by omega) (by omega), by simp only; omega, by simp only; omega, h3⟩, (Weak.low (by simp -implicitDefEqProofs (disch := omega) only [go_sem, sub_nil, sub_cons, LX]; try ((repeat' refine And.intro ?_ ?_) <;> first | rfl | trivial | (congr 3; omega) | (congr 1; omega))))⟩
    · have hc : c = 0 := by omega
      rw [hc, Int.mul_zero, Int.add_zero, List.take_of_length_le (by omega), hv] at hvl
      refine ⟨(i + 1, l), by simp only; omega, ⟨by simp only; omega, hll, hdl, ?_⟩, (Weak.low (by simp -implicitDefEqProofs (disch := omega) only [go_sem, sub_nil, sub_cons, LX]; try ((repeat' refine And.intro ?_ ?_) <;> first | rfl | trivial | (congr 3; omega) | (congr 1; omega))))⟩
      simp only
      rw [hvl, val_take]
      generalize (10000 : Int) ^ i = p
      grind
  · rw [← digs_val hd, hv, List.take_of_length_le (by omega), hvm, hvn]
    congr 4
theorem sgnQ_bnd (a : Q) : -1 ≤ sgnQ a ∧ sgnQ a ≤ 1 := by unfold sgnQ; (repeat' split) <;> omega
theorem cmpN_bnd (m n : Nat) : -1 ≤ cmpN m n ∧ cmpN m n ≤ 1 := by unfold cmpN; (repeat' split) <;> omega
instance (b : Bool) (m n : Nat) : Con CC 96 [.d (.agg [.b b, encD (digs m), encD (digs n)])] ((digs m).length ≤ 1048576) (.d (.i (sgnQ ⟨b, m, n⟩))) := by
  constructor; intro hm
  have h0 := digs_len0 (n := m)
  refine Den.pureI Tryz.func96 rfl 1 [.tmp 2] (by kernel_rfl) rfl rfl (by simp only [initE_nil, initE_cons, Nat.reduceAdd]; exact rfl) ?_
  repeat' first | ((with_reducible first | refine wC ?_ | refine wC0 ?_); (first | with_reducible refine pN ?_ rfl ?_ | (refine pcDn ?_; first | with_reducible refine pN ?_ rfl ?_))) | (with_reducible refine nx ?_; simp -implicitDefEqProofs (disch := omega) only [go_sem]) | (with_reducible show Wp _ _ _ _ _ _; first | refine rR ?_ | refine Wp.skip ?_ | refine Wp.ret ?_ | refine Wp.exit ?_ | refine rD ?_ | refine Wp.label ?_ | refine wS fun K hK => ?_ | refine wB fun K hK => ?_ | refine wE ?_) | (with_reducible show _ ∧ _; (first | refine an ?_ | refine And.intro ?_ ?_)) | (with_reducible show bcase _ _ _; first | refine bcaseT ?_ | refine bcaseF ?_ | (refine bcase_s ?_ ?_ <;> intro h <;> (first | subst h | (try simp only [FX, LX] at h)))) | (with_reducible show gcase _ _ _ _; first | refine gcaseTT ?_ | refine gcaseTF ?_ | refine gcaseFT ?_ | refine gcaseFF ?_ | refine gcaseU ?_ | ((first | refine wGt ?_ ?_ | refine wGf ?_ ?_) <;> intro h <;> (first | subst h | (simp only [h]; (try simp only [FX, LX] at h))))) | ((with_reducible refine wCq ?_); (first | with_reducible refine pQ ?_ rfl (by first | exact .inl rfl | exact .inr rfl) ?_ | (refine pcDQn ?_; first | with_reducible refine pQ ?_ rfl (by first | exact .inl rfl | exact .inr rfl) ?_))) | (with_reducible first | refine wG ?_ | refine wGq ?_ | refine r1_append ?_ | refine nilB_pos (by omega) ?_ | refine nilB_i fun b hb => ?_) | (with_reducible refine Imp.out ‹Imp _ _› ?_; (try simp only [TX, Nat.reduceBEq])) | assumption | omega | exact trivial | (simp only [LX]; omega)
  · rw [show m = 0 by omega]; rfl
  · simp [sgnQ, show m ≠ 0 by omega]
  · simp [sgnQ, show m ≠ 0 by omega]
instance (b : Bool) (m n : Nat) (c : Bool) (u v : Nat) : Con CC 76 [.d (.agg [.b b, encD (digs m), encD (digs n)]), .d (.agg [.b c, encD (digs u), encD (digs v)])] (lenQ 2000 ⟨b, m, n⟩ ∧ lenQ 2000 ⟨c, u, v⟩) (.d (.i (cmpI ⟨b, m, n⟩ ⟨c, u, v⟩))) := by
  constructor; rintro ⟨⟨a1, a2, a3⟩, b1, b2, b3⟩
  simp only at a1 a2 a3 b1 b2 b3
  have h1 := digs_mul_le m v
  have h2 := digs_mul_le u n
  have s1 := sgnQ_bnd ⟨b, m, n⟩
  have s2 := sgnQ_bnd ⟨c, u, v⟩
  have s3 := cmpN_bnd (m * v) (u * n)
  refine Den.pureI Tryz.func76 rfl 2 [.tmp 4] (by kernel_rfl) rfl rfl (by simp only [initE_nil, initE_cons, Nat.reduceAdd]; exact rfl) ?_
  repeat' first | ((with_reducible first | refine wC ?_ | refine wC0 ?_); (first | with_reducible refine pN ?_ rfl ?_ | (refine pcDn ?_; first | with_reducible refine pN ?_ rfl ?_))) | (with_reducible refine nx ?_; simp -implicitDefEqProofs (disch := omega) only [go_sem]) | (with_reducible show Wp _ _ _ _ _ _; first | refine rR ?_ | refine Wp.skip ?_ | refine Wp.ret ?_ | refine Wp.exit ?_ | refine Wp.drawR (by decide +kernel) ?_ | refine Wp.drawSR [1, 3, 4] [false, true, false, true, true] (.op 1 [2] (.op 3 [] (.op 4 [] .done))) (by decide +kernel) ?_ | refine Wp.drawSR [1, 3, 4, 5] [false, true, false, true, true, true] (.op 1 [2] (.op 3 [] (.op 4 [] (.op 5 [] .done)))) (by decide +kernel) ?_ | refine Wp.drawSR [4, 9, 10, 11] [false, false, false, false, true, false, false, false, false, true, true, true] (.op 4 [5,6,7,8] (.op 9 [] (.op 10 [] (.op 11 [] .done)))) (by decide +kernel) ?_ | refine Wp.label ?_ | refine wS fun K hK => ?_ | refine wB fun K hK => ?_ | refine wE ?_) | (with_reducible show _ ∧ _; (first | refine an ?_ | refine And.intro ?_ ?_)) | (with_reducible show bcase _ _ _; first | refine bcaseT ?_ | refine bcaseF ?_ | (refine bcase_s ?_ ?_ <;> intro h <;> (first | subst h | (try simp only [FX, LX] at h)))) | (with_reducible show gcase _ _ _ _; first | refine gcaseTT ?_ | refine gcaseTF ?_ | refine gcaseFT ?_ | refine gcaseFF ?_ | refine gcaseU ?_ | ((first | refine wGt ?_ ?_ | refine wGf ?_ ?_) <;> intro h <;> (first | subst h | (simp only [h]; (try simp only [FX, LX] at h))))) | ((with_reducible refine wCq ?_); (first | with_reducible refine pQ ?_ rfl (by first | exact .inl rfl | exact .inr rfl) ?_ | (refine pcDQn ?_; first | with_reducible refine pQ ?_ rfl (by first | exact .inl rfl | exact .inr rfl) ?_))) | (with_reducible first | refine wG ?_ | refine wGq ?_ | refine r1_append ?_ | refine nilB_pos (by omega) ?_ | refine nilB_i fun b hb => ?_ | refine wGqA ?_ | refine wGl ?_ | refine wGt2 ?_) | ((with_reducible first | show qA _ _ _ _ _ _ | show lateR _ _ _ _ _ _ | show trR _ _ _ _ _ _); simp -implicitDefEqProofs (disch := omega) only [go_sem]) | (with_reducible refine Imp.out ‹Imp _ _› ?_; (try simp only [TX, Nat.reduceBEq])) | assumption | omega | exact trivial | (simp only [LX]; omega)
  · unfold cmpI; rw [if_pos (by assumption)]
  · unfold cmpI; rw [if_neg (by simp only [ne_eq, Decidable.not_not]; assumption)]; simp
  · unfold cmpI; rw [if_neg (by simp only [ne_eq, Decidable.not_not]; assumption)]; simp
end Go.PL

/- AH -/
namespace Go.PL
open Go Go.Proofs
set_option maxRecDepth 10000
set_option linter.unusedSimpArgs false
set_option linter.unusedVariables false
def toQ (r : Rt) : Q := ⟨r.neg, (val r.num).toNat, (val r.den).toNat⟩
theorem okRat_toQ {r : Rt} (h : okRat r = true) : r.num = digs (toQ r).n ∧ r.den = digs (toQ r).d ∧ lenQ 40 (toQ r) := by
  unfold okRat at h
  simp only [Bool.and_eq_true, Bool.not_eq_true'] at h
  obtain ⟨m, h1, h2⟩ := okNat_digs (a := r.num) (by simp_all)
  obtain ⟨n, h3, h4⟩ := okNat_digs (a := r.den) (by simp_all)
  have e1 : (toQ r).n = m := by unfold toQ; simp only; rw [h1, val_digs]; rfl
  have e2 : (toQ r).d = n := by unfold toQ; simp only; rw [h3, val_digs]; rfl
  refine ⟨by rw [e1]; exact h1, by rw [e2]; exact h3, by rw [e1]; exact h2, by rw [e2]; exact h4, ?_⟩
  rw [e2]
  rcases Nat.eq_zero_or_pos n with e | e
  · exfalso
    rw [e, digs_zero] at h3
    simp_all
  · exact e
def dropAt (l : List Rc) (t : Nat) : Prop := cmpQ (toQ (l.getD (t + 1) rc0).f) (toQ (l.getD t rc0).f) < 0
instance (l : List Rc) (t : Nat) : Decidable (dropAt l t) := by unfold dropAt; infer_instance
def dropsR (l : List Rc) : Bool := decide (∀ t, t < l.length - 1 → dropAt l t)
theorem lenQ.mono {L M : Nat} {q : Q} (h : lenQ L q) (hM : L ≤ M) : lenQ M q := ⟨Nat.le_trans h.1 hM, Nat.le_trans h.2.1 hM, h.2.2⟩
theorem dropsR_not {l : List Rc} {i : Nat} (hi : i + 1 < l.length) (h : ¬dropAt l i) : dropsR l = false := by
  unfold dropsR; rw [decide_eq_false_iff_not]; exact fun hh => h (hh i (by omega))
theorem dropsR_all {l : List Rc} (h : ∀ t, t < l.length - 1 → dropAt l t) : dropsR l = true := by
  unfold dropsR; rw [decide_eq_true_eq]; exact h
theorem okRp_rats {a : Int} {l : List Rc} (h : okRp ⟨a, l⟩ = true) : ∀ t, t < l.length → okRat (l.getD t rc0).f = true := by
  intro t ht
  unfold okRp at h
  rw [decide_eq_true_eq] at h
  have h1 := (h.2.2.2 t ht).1
  unfold okRc at h1
  simp only [Bool.and_eq_true] at h1
  exact h1.2
end Go.PL
