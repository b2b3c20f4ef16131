/- A plain machine, sound for the given model, and contracts of functions over it, part 29: AF. Nothing is assumed. -/
import Derived.Test.YtgfncbcnplfpdabGreatDoorG28
set_option linter.unusedSimpArgs false
set_option linter.unusedVariables false
set_option linter.unusedSectionVars false
/- AF -/
namespace Go.PL
open Go Go.Proofs
set_option maxRecDepth 10000
set_option linter.unusedSimpArgs false
set_option linter.unusedVariables false
theorem digs_len_pos' {n : Nat} : 0 < ((digs n).length : Int) ↔ 0 < n := by
  have := digs_len0 (n := n); omega
theorem add_step {a b l : List Int} {i : Nat} {c s : Int} (hl : l.length = i) (hs : s = c + a.getD i 0 + b.getD i 0) (hv : val l + 10000 ^ i * c = val (a.take i) + val (b.take i)) :
    val (l ++ [s % 10000]) + 10000 ^ (i + 1) * (s / 10000) = val (a.take (i + 1)) + val (b.take (i + 1)) := by
  rw [val_take, val_take, val_app, hl, Int.pow_succ]
  have h : s = 10000 * (s / 10000) + s % 10000 := (Int.mul_ediv_add_emod s 10000).symm
  generalize s / 10000 = q at *
  generalize s % 10000 = r at *
  generalize (10000 : Int) ^ i = p at *
  simp only [val]
  grind
/-- What a round of an addition keeps. -/
def addI (a b : List Int) (t : Nat) (i : Nat) (c : Int) (l : List Int) : Prop :=
  l.length = i ∧ Dig l ∧ 0 ≤ c ∧ c ≤ 1 ∧ val l + 10000 ^ i * c = val (a.take i) + val (b.take i) ∧ (i = 0 ∨ 10000 ^ (i - 1) ≤ t) ∧ i ≤ 4096
theorem pow_cast (i : Nat) : ((10000 ^ i : Nat) : Int) = (10000 : Int) ^ i := by simp
theorem addI_step {a b l : List Int} {m n i : Nat} {c s : Int} (ha : Dig a) (hb : Dig b) (hva : val a = m) (hvb : val b = n) (hla : a.length < 4096) (hlb : b.length < 4096) (hga : ∀ {L : Nat}, L < a.length → 10000 ^ L ≤ m) (hgb : ∀ {L : Nat}, L < b.length → 10000 ^ L ≤ n)
    (h : addI a b (m + n) i c l) (hs : s = c + a.getD i 0 + b.getD i 0) (hc : i < a.length ∨ i < b.length ∨ 0 < c) : addI a b (m + n) (i + 1) (s / 10000) (l ++ [s % 10000]) := by
  obtain ⟨h1, h2, h3, h4, h5, h6, h7⟩ := h
  have ga := ha.get i
  have gb := hb.get i
  have key : 10000 ^ i ≤ m + n := by
    by_cases e1 : i < a.length
    · have := hga e1; omega
    · by_cases e2 : i < b.length
      · have := hgb e2; omega
      · have e3 : c = 1 := by omega
        rw [e3, Int.mul_one, List.take_of_length_le (by omega), List.take_of_length_le (by omega), hva, hvb, ← pow_cast] at h5
        have := val_nonneg h2
        omega
  have hi : i < 4096 := by
    have e1 := val_lt ha
    have e2 := val_lt hb
    rw [hva, ← pow_cast] at e1
    rw [hvb, ← pow_cast] at e2
    obtain ⟨M, hM⟩ : ∃ M, M = 4095 := ⟨_, rfl⟩
    have e3 := Nat.pow_le_pow_right (by omega : 0 < 10000) (by omega : a.length ≤ M)
    have e4 := Nat.pow_le_pow_right (by omega : 0 < 10000) (by omega : b.length ≤ M)
    rcases Nat.lt_or_ge i 4096 with q | q
    · exact q
    · have e5 := Nat.pow_le_pow_right (by omega : 0 < 10000) (show M + 1 ≤ i by omega)
      rw [Nat.pow_succ] at e5
      generalize 10000 ^ M = z at *
      omega
  exact ⟨by simp [h1], h2.app (.cons (by omega) (by omega) .nil), by omega, by omega, add_step h1 hs h5, .inr key, hi⟩
theorem addI_end {a b l : List Int} {m n i : Nat} {c : Int} (hva : val a = m) (hvb : val b = n) (h : addI a b (m + n) i c l) (h1 : a.length ≤ i) (h2 : b.length ≤ i) (h3 : c ≤ 0) : l = digs (m + n) := by
  obtain ⟨k1, k2, k3, k4, k5, k6, k7⟩ := h
  have e : c = 0 := by omega
  rw [e, Int.mul_zero, Int.add_zero, List.take_of_length_le h1, List.take_of_length_le h2, hva, hvb] at k5
  refine digs_of k2 (by rw [k5]; omega) ?_
  rw [k1]; exact k6
theorem addI_zero {a b : List Int} {t : Nat} : addI a b t 0 0 [] := ⟨rfl, Dig.nil, by simp, by simp, by simp [val], .inl rfl, by simp⟩
instance (m n : Nat) : Con CC 110 [.d (encD (digs m)), .d (encD (digs n))] ((digs m).length < 4096 ∧ (digs n).length < 4096) (.d (encD (digs (m + n)))) := by
  constructor; intro ⟨hm, hn⟩
  have hdm := Dig.digs m
  have hdn := Dig.digs n
  have hvm := val_digs m
  have hvn := val_digs n
  have hgm := @digs_len_ge m
  have hgn := @digs_len_ge n
  generalize digs m = a at *
  generalize digs n = b at *
  refine Den.pureI Tryz.func110 rfl 2 [.tmp 4] (by kernel_rfl) rfl rfl (by simp only [initE_nil, initE_cons, Nat.reduceAdd]; exact rfl) ?_
  repeat' first | ((with_reducible first | refine wC ?_ | refine wC0 ?_); (first | with_reducible refine pN ?_ rfl ?_ | (refine pcDn ?_; first | with_reducible refine pN ?_ rfl ?_))) | (with_reducible refine nx ?_; simp -implicitDefEqProofs (disch := omega) only [go_sem]) | (with_reducible show Wp _ _ _ _ _ _; first | refine rR ?_ | refine Wp.skip ?_ | refine Wp.ret ?_ | refine Wp.exit ?_ | refine rD ?_ | refine Wp.label ?_ | refine wS fun K hK => ?_ | refine wB fun K hK => ?_ | refine wE ?_) | (with_reducible show _ ∧ _; (first | refine an ?_ | refine And.intro ?_ ?_)) | (with_reducible show bcase _ _ _; first | refine bcaseT ?_ | refine bcaseF ?_ | (refine bcase_s ?_ ?_ <;> intro h <;> (first | subst h | (try simp only [FX, LX] at h)))) | (with_reducible show gcase _ _ _ _; first | refine gcaseTT ?_ | refine gcaseTF ?_ | refine gcaseFT ?_ | refine gcaseFF ?_ | refine gcaseU ?_ | ((first | refine wGt ?_ ?_ | refine wGf ?_ ?_) <;> intro h <;> (first | subst h | (simp only [h]; (try simp only [FX, LX] at h))))) | ((with_reducible refine wCq ?_); (first | with_reducible refine pQ ?_ rfl (by first | exact .inl rfl | exact .inr rfl) ?_ | (refine pcDQn ?_; first | with_reducible refine pQ ?_ rfl (by first | exact .inl rfl | exact .inr rfl) ?_))) | (with_reducible first | refine wG ?_ | refine wGq ?_ | refine r1_append ?_ | refine nilB_pos (by omega) ?_ | refine nilB_i fun b hb => ?_) | (with_reducible refine Imp.out ‹Imp _ _› ?_; (try simp only [TX, Nat.reduceBEq])) | assumption | omega | exact trivial | (simp only [LX]; omega)
  refine Wp.loopR (fun x : Nat × Int × List Int => ⟨[(0, .d (encD a)), (1, .d (encD b)), (5, .msl 0 0 x.2.2.length), (6, .d (.i x.2.1)), (7, .d (.i x.1))], [.arr 1 (x.2.2.map .i) false]⟩) (fun x => 4097 - x.1)
    (fun x => addI a b (m + n) x.1 x.2.1 x.2.2) (0, 0, []) (Weak.low ⟨rfl, rfl, rfl, rfl, rfl, trivial⟩) addI_zero ?_
  rintro ⟨i, c, l⟩ hI K hK
  simp only at hI ⊢
  obtain ⟨hl, hd, hc0, hc1, hv, ht, hi⟩ := id hI
  have ga := hdm.get i
  have gb := hdn.get i
  have st := fun s => addI_step (s := s) hdm hdn hvm hvn hm hn hgm hgn hI
  repeat' first | ((with_reducible first | refine wC ?_ | refine wC0 ?_); (first | with_reducible refine pN ?_ rfl ?_ | (refine pcDn ?_; first | with_reducible refine pN ?_ rfl ?_))) | (with_reducible refine nx ?_; simp -implicitDefEqProofs (disch := omega) only [go_sem]) | (with_reducible show Wp _ _ _ _ _ _; first | refine rR ?_ | refine Wp.skip ?_ | refine Wp.ret ?_ | refine Wp.exit ?_ | refine rD ?_ | refine Wp.label ?_ | refine wS fun K hK => ?_ | refine wB fun K hK => ?_ | refine wE ?_) | (with_reducible show _ ∧ _; (first | refine an ?_ | refine And.intro ?_ ?_)) | (with_reducible show bcase _ _ _; first | refine bcaseT ?_ | refine bcaseF ?_ | (refine bcase_s ?_ ?_ <;> intro h <;> (first | subst h | (try simp only [FX, LX] at h)))) | (with_reducible show gcase _ _ _ _; first | refine gcaseTT ?_ | refine gcaseTF ?_ | refine gcaseFT ?_ | refine gcaseFF ?_ | refine gcaseU ?_ | ((first | refine wGt ?_ ?_ | refine wGf ?_ ?_) <;> intro h <;> (first | subst h | (simp only [h]; (try simp only [FX, LX] at h))))) | ((with_reducible refine wCq ?_); (first | with_reducible refine pQ ?_ rfl (by first | exact .inl rfl | exact .inr rfl) ?_ | (refine pcDQn ?_; first | with_reducible refine pQ ?_ rfl (by first | exact .inl rfl | exact .inr rfl) ?_))) | (with_reducible first | refine wG ?_ | refine wGq ?_ | refine r1_append ?_ | refine nilB_pos (by omega) ?_ | refine nilB_i fun b hb => ?_) | (with_reducible refine Imp.out ‹Imp _ _› ?_; (try simp only [TX, Nat.reduceBEq])) | assumption | omega | exact trivial | (simp only [LX]; omega)
  · have h3 := st _ rfl (by omega)
    exact ⟨(i + 1, _, _), by have := h3.2.2.2.2.2.2; simp only; omega, h3, (Weak.cut (by simp -implicitDefEqProofs (disch := omega) only [go_sem, sub_nil, sub_cons, LX]; try ((repeat' refine And.intro ?_ ?_) <;> first | rfl | trivial | (congr 3; omega) | (congr 1; omega))) rfl (by simp) rfl rfl)⟩
  · have h3 := st (c + a.getD i 0) (by rw [getD_over (by omega : b.length ≤ i)]; omega) (by omega)
    exact ⟨(i + 1, _, _), by have := h3.2.2.2.2.2.2; simp only; omega, h3, (Weak.cut (by simp -implicitDefEqProofs (disch := omega) only [go_sem, sub_nil, sub_cons, LX]; try ((repeat' refine And.intro ?_ ?_) <;> first | rfl | trivial | (congr 3; omega) | (congr 1; omega))) rfl (by simp) rfl rfl)⟩
  · have h3 := st (c + b.getD i 0) (by rw [getD_over (by omega : a.length ≤ i)]; omega) (by omega)
    exact ⟨(i + 1, _, _), by have := h3.2.2.2.2.2.2; simp only; omega, h3, (Weak.cut (by simp -implicitDefEqProofs (disch := omega) only [go_sem, sub_nil, sub_cons, LX]; try ((repeat' refine And.intro ?_ ?_) <;> first | rfl | trivial | (congr 3; omega) | (congr 1; omega))) rfl (by simp) rfl rfl)⟩
  · have h3 := st c (by rw [getD_over (by omega : a.length ≤ i), getD_over (by omega : b.length ≤ i)]; omega) (by omega)
    exact ⟨(i + 1, _, _), by have := h3.2.2.2.2.2.2; simp only; omega, h3, (Weak.cut (by simp -implicitDefEqProofs (disch := omega) only [go_sem, sub_nil, sub_cons, LX]; try ((repeat' refine And.intro ?_ ?_) <;> first | rfl | trivial | (congr 3; omega) | (congr 1; omega))) rfl (by simp) rfl rfl)⟩
  · rw [addI_end hvm hvn hI (by omega) (by omega) (by omega)]

abbrev dQ (b : Bool) (m n : Nat) : D := .agg [.b b, encD (digs m), encD (digs n)]
instance (b : Bool) (m n : Nat) : Con CC 109 [.d (.b b), .d (encD (digs m)), .d (encD (digs n))] (0 < n ∧ (digs m).length ≤ 1800 ∧ (digs n).length ≤ 1800) (.d (encQ (mkQ b m n))) := by
  constructor; intro ⟨h0, hm, hn⟩
  have hg := gcd_pos (m := m) h0
  have hgl : (digs (Nat.gcd m n)).length ≤ 2000 := Nat.le_trans (digs_len_mono (Nat.le_of_dvd h0 (Nat.gcd_dvd_right m n))) (by omega)
  have hp := digs_len_mono (Nat.div_le_self m (Nat.gcd m n))
  refine Den.pureI Tryz.func109 rfl 3 [.cell 6 37] (by kernel_rfl) rfl rfl (by simp only [initE_nil, initE_cons, Nat.reduceAdd]; exact rfl) ?_
  repeat' first | ((with_reducible first | refine wC ?_ | refine wC0 ?_); (first | with_reducible refine pN ?_ rfl ?_ | (refine pcDn ?_; first | with_reducible refine pN ?_ rfl ?_))) | (with_reducible refine nx ?_; simp -implicitDefEqProofs (disch := omega) only [go_sem]) | (with_reducible show Wp _ _ _ _ _ _; first | refine rR ?_ | refine Wp.skip ?_ | refine Wp.ret ?_ | refine Wp.exit ?_ | refine rD ?_ | refine Wp.label ?_ | refine wS fun K hK => ?_ | refine wB fun K hK => ?_ | refine wE ?_) | (with_reducible show _ ∧ _; (first | refine an ?_ | refine And.intro ?_ ?_)) | (with_reducible show bcase _ _ _; first | refine bcaseT ?_ | refine bcaseF ?_ | (refine bcase_s ?_ ?_ <;> intro h <;> (first | subst h | (try simp only [FX, LX] at h)))) | (with_reducible show gcase _ _ _ _; first | refine gcaseTT ?_ | refine gcaseTF ?_ | refine gcaseFT ?_ | refine gcaseFF ?_ | refine gcaseU ?_ | ((first | refine wGt ?_ ?_ | refine wGf ?_ ?_) <;> intro h <;> (first | subst h | (simp only [h]; (try simp only [FX, LX] at h))))) | ((with_reducible refine wCq ?_); (first | with_reducible refine pQ ?_ rfl (by first | exact .inl rfl | exact .inr rfl) ?_ | (refine pcDQn ?_; first | with_reducible refine pQ ?_ rfl (by first | exact .inl rfl | exact .inr rfl) ?_))) | (with_reducible first | refine wG ?_ | refine wGq ?_ | refine r1_append ?_ | refine nilB_pos (by omega) ?_ | refine nilB_i fun b hb => ?_) | (with_reducible refine Imp.out ‹Imp _ _› ?_; (try simp only [TX, Nat.reduceBEq])) | assumption | omega | exact trivial | (simp only [LX]; omega)
  all_goals simp only [mkQ, digs_len_pos', Bool.true_and, Bool.false_and]
instance (b : Bool) (m n : Nat) : Con CC 85 [.d (.agg [.b b, encD (digs m), encD (digs n)])] ((digs m).length ≤ 1048576) (.d (encQ (negQ ⟨b, m, n⟩))) := by
  constructor; intro hm
  refine Den.pureI Tryz.func85 rfl 1 [.cell 2 37] (by kernel_rfl) rfl rfl (by simp only [initE_nil, initE_cons, Nat.reduceAdd]; exact rfl) ?_
  repeat' first | ((with_reducible first | refine wC ?_ | refine wC0 ?_); (first | with_reducible refine pN ?_ rfl ?_ | (refine pcDn ?_; first | with_reducible refine pN ?_ rfl ?_))) | (with_reducible refine nx ?_; simp -implicitDefEqProofs (disch := omega) only [go_sem]) | (with_reducible show Wp _ _ _ _ _ _; first | refine rR ?_ | refine Wp.skip ?_ | refine Wp.ret ?_ | refine Wp.exit ?_ | refine rD ?_ | refine Wp.label ?_ | refine wS fun K hK => ?_ | refine wB fun K hK => ?_ | refine wE ?_) | (with_reducible show _ ∧ _; (first | refine an ?_ | refine And.intro ?_ ?_)) | (with_reducible show bcase _ _ _; first | refine bcaseT ?_ | refine bcaseF ?_ | (refine bcase_s ?_ ?_ <;> intro h <;> (first | subst h | (try simp only [FX, LX] at h)))) | (with_reducible show gcase _ _ _ _; first | refine gcaseTT ?_ | refine gcaseTF ?_ | refine gcaseFT ?_ | refine gcaseFF ?_ | refine gcaseU ?_ | ((first | refine wGt ?_ ?_ | refine wGf ?_ ?_) <;> intro h <;> (first | subst h | (simp only [h]; (try simp only [FX, LX] at h))))) | ((with_reducible refine wCq ?_); (first | with_reducible refine pQ ?_ rfl (by first | exact .inl rfl | exact .inr rfl) ?_ | (refine pcDQn ?_; first | with_reducible refine pQ ?_ rfl (by first | exact .inl rfl | exact .inr rfl) ?_))) | (with_reducible first | refine wG ?_ | refine wGq ?_ | refine r1_append ?_ | refine nilB_pos (by omega) ?_ | refine nilB_i fun b hb => ?_) | (with_reducible refine Imp.out ‹Imp _ _› ?_; (try simp only [TX, Nat.reduceBEq])) | assumption | omega | exact trivial | (simp only [LX]; omega)
  all_goals (subst h; simp only [negQ, digs_len_pos', Bool.not_true, Bool.not_false, Bool.true_and, Bool.false_and])
instance (b : Bool) (m n : Nat) : Con CC 61 [.d (.agg [.b b, encD (digs m), encD (digs n)])] ((digs m).length ≤ 1048576) (.d (.b (decide (m = 0)))) := by
  constructor; intro hm
  refine Den.pureI Tryz.func61 rfl 1 [.tmp 2] (by kernel_rfl) rfl rfl (by simp only [initE_nil, initE_cons, Nat.reduceAdd]; exact rfl) ?_
  repeat' first | ((with_reducible first | refine wC ?_ | refine wC0 ?_); (first | with_reducible refine pN ?_ rfl ?_ | (refine pcDn ?_; first | with_reducible refine pN ?_ rfl ?_))) | (with_reducible refine nx ?_; simp -implicitDefEqProofs (disch := omega) only [go_sem]) | (with_reducible show Wp _ _ _ _ _ _; first | refine rR ?_ | refine Wp.skip ?_ | refine Wp.ret ?_ | refine Wp.exit ?_ | refine rD ?_ | refine Wp.label ?_ | refine wS fun K hK => ?_ | refine wB fun K hK => ?_ | refine wE ?_) | (with_reducible show _ ∧ _; (first | refine an ?_ | refine And.intro ?_ ?_)) | (with_reducible show bcase _ _ _; first | refine bcaseT ?_ | refine bcaseF ?_ | (refine bcase_s ?_ ?_ <;> intro h <;> (first | subst h | (try simp only [FX, LX] at h)))) | (with_reducible show gcase _ _ _ _; first | refine gcaseTT ?_ | refine gcaseTF ?_ | refine gcaseFT ?_ | refine gcaseFF ?_ | refine gcaseU ?_ | ((first | refine wGt ?_ ?_ | refine wGf ?_ ?_) <;> intro h <;> (first | subst h | (simp only [h]; (try simp only [FX, LX] at h))))) | ((with_reducible refine wCq ?_); (first | with_reducible refine pQ ?_ rfl (by first | exact .inl rfl | exact .inr rfl) ?_ | (refine pcDQn ?_; first | with_reducible refine pQ ?_ rfl (by first | exact .inl rfl | exact .inr rfl) ?_))) | (with_reducible first | refine wG ?_ | refine wGq ?_ | refine r1_append ?_ | refine nilB_pos (by omega) ?_ | refine nilB_i fun b hb => ?_) | (with_reducible refine Imp.out ‹Imp _ _› ?_; (try simp only [TX, Nat.reduceBEq])) | assumption | omega | exact trivial | (simp only [LX]; omega)
  congr 3
  rw [Bool.eq_iff_iff]; simp [digs_nil]
instance (b : Bool) (m n : Nat) : Con CC 30 [.d (.agg [.b b, encD (digs m), encD (digs n)])] ((digs m).length ≤ 1048576) (.d (.i (sgnQ ⟨b, m, n⟩))) := by
  constructor; intro hm
  refine Den.pureI Tryz.func30 rfl 1 [.tmp 2] (by kernel_rfl) rfl rfl (by simp only [initE_nil, initE_cons, Nat.reduceAdd]; exact rfl) ?_
  repeat' first | ((with_reducible first | refine wC ?_ | refine wC0 ?_); (first | with_reducible refine pN ?_ rfl ?_ | (refine pcDn ?_; first | with_reducible refine pN ?_ rfl ?_))) | (with_reducible refine nx ?_; simp -implicitDefEqProofs (disch := omega) only [go_sem]) | (with_reducible show Wp _ _ _ _ _ _; first | refine rR ?_ | refine Wp.skip ?_ | refine Wp.ret ?_ | refine Wp.exit ?_ | refine rD ?_ | refine Wp.label ?_ | refine wS fun K hK => ?_ | refine wB fun K hK => ?_ | refine wE ?_) | (with_reducible show _ ∧ _; (first | refine an ?_ | refine And.intro ?_ ?_)) | (with_reducible show bcase _ _ _; first | refine bcaseT ?_ | refine bcaseF ?_ | (refine bcase_s ?_ ?_ <;> intro h <;> (first | subst h | (try simp only [FX, LX] at h)))) | (with_reducible show gcase _ _ _ _; first | refine gcaseTT ?_ | refine gcaseTF ?_ | refine gcaseFT ?_ | refine gcaseFF ?_ | refine gcaseU ?_ | ((first | refine wGt ?_ ?_ | refine wGf ?_ ?_) <;> intro h <;> (first | subst h | (simp only [h]; (try simp only [FX, LX] at h))))) | ((with_reducible refine wCq ?_); (first | with_reducible refine pQ ?_ rfl (by first | exact .inl rfl | exact .inr rfl) ?_ | (refine pcDQn ?_; first | with_reducible refine pQ ?_ rfl (by first | exact .inl rfl | exact .inr rfl) ?_))) | (with_reducible first | refine wG ?_ | refine wGq ?_ | refine r1_append ?_ | refine nilB_pos (by omega) ?_ | refine nilB_i fun b hb => ?_) | (with_reducible refine Imp.out ‹Imp _ _› ?_; (try simp only [TX, Nat.reduceBEq])) | assumption | omega | exact trivial | (simp only [LX]; omega)
  all_goals simp [sgnQ, *]
theorem addQ_1 {b c : Bool} {m n u v : Nat} (h : b = c) : addQ ⟨b, m, n⟩ ⟨c, u, v⟩ = mkQ b (m * v + u * n) (n * v) := if_pos h
theorem addQ_2 {b c : Bool} {m n u v : Nat} (h : b ≠ c) (h2 : u * n ≤ m * v) : addQ ⟨b, m, n⟩ ⟨c, u, v⟩ = mkQ b (m * v - u * n) (n * v) := by unfold addQ; rw [if_neg h, if_pos h2]
theorem addQ_3 {b c : Bool} {m n u v : Nat} (h : b ≠ c) (h2 : m * v < u * n) : addQ ⟨b, m, n⟩ ⟨c, u, v⟩ = mkQ c (u * n - m * v) (n * v) := by unfold addQ; rw [if_neg h, if_neg (by simp only; omega)]
instance (b : Bool) (m n : Nat) (c : Bool) (u v : Nat) : Con CC 84 [.d (.agg [.b b, encD (digs m), encD (digs n)]), .d (.agg [.b c, encD (digs u), encD (digs v)])] (lenQ 800 ⟨b, m, n⟩ ∧ lenQ 800 ⟨c, u, v⟩) (.d (encQ (addQ ⟨b, m, n⟩ ⟨c, u, v⟩))) := by
  constructor; rintro ⟨⟨a1, a2, a3⟩, b1, b2, b3⟩
  simp only at a1 a2 a3 b1 b2 b3
  have h1 := digs_mul_le m v
  have h2 := digs_mul_le u n
  have h3 := digs_mul_le n v
  have h4 := Nat.mul_pos a3 b3
  have h5 := digs_add_le (L := 1600) (m := m * v) (n := u * n) (by omega) (by omega)
  have h6 := digs_len_mono (Nat.sub_le (m * v) (u * n))
  have h7 := digs_len_mono (Nat.sub_le (u * n) (m * v))
  refine Den.pureI Tryz.func84 rfl 2 [.cell 4 37] (by kernel_rfl) rfl rfl (by simp only [initE_nil, initE_cons, Nat.reduceAdd]; exact rfl) ?_
  repeat' first | ((with_reducible first | refine wC ?_ | refine wC0 ?_); (first | with_reducible refine pN ?_ rfl ?_ | (refine pcDn ?_; first | with_reducible refine pN ?_ rfl ?_))) | (with_reducible refine nx ?_; simp -implicitDefEqProofs (disch := omega) only [go_sem]) | (with_reducible show Wp _ _ _ _ _ _; first | refine rR ?_ | refine Wp.skip ?_ | refine Wp.ret ?_ | refine Wp.exit ?_ | refine Wp.drawR (by decide +kernel) ?_ | refine Wp.drawSR [4, 6, 7] [false, false, false, false, true, false, true, true] (.op 4 [0,1,5] (.op 6 [] (.op 7 [] .done))) (by decide +kernel) ?_ | refine Wp.drawSR [4, 6, 7] [false, false, false, false, true, false, true, true] (.op 4 [0,1,5] (.op 6 [] (.op 7 [] .done))) (by decide +kernel) ?_ | refine Wp.drawSR [4, 6, 7] [false, false, false, false, true, false, true, true] (.op 4 [0,1,5] (.op 6 [] (.op 7 [] .done))) (by decide +kernel) ?_ | refine Wp.label ?_ | refine wS fun K hK => ?_ | refine wB fun K hK => ?_ | refine wE ?_) | (with_reducible show _ ∧ _; (first | refine an ?_ | refine And.intro ?_ ?_)) | (with_reducible show bcase _ _ _; first | refine bcaseT ?_ | refine bcaseF ?_ | (refine bcase_s ?_ ?_ <;> intro h <;> (first | subst h | (try simp only [FX, LX] at h)))) | (with_reducible show gcase _ _ _ _; first | refine gcaseTT ?_ | refine gcaseTF ?_ | refine gcaseFT ?_ | refine gcaseFF ?_ | refine gcaseU ?_ | ((first | refine wGt ?_ ?_ | refine wGf ?_ ?_) <;> intro h <;> (first | subst h | (simp only [h]; (try simp only [FX, LX] at h))))) | ((with_reducible refine wCq ?_); (first | with_reducible refine pQ ?_ rfl (by first | exact .inl rfl | exact .inr rfl) ?_ | (refine pcDQn ?_; first | with_reducible refine pQ ?_ rfl (by first | exact .inl rfl | exact .inr rfl) ?_))) | (with_reducible first | refine wG ?_ | refine wGq ?_ | refine r1_append ?_ | refine nilB_pos (by omega) ?_ | refine nilB_i fun b hb => ?_ | refine wGqA ?_ | refine wGl ?_ | refine wGt2 ?_) | ((with_reducible first | show qA _ _ _ _ _ _ | show lateR _ _ _ _ _ _ | show trR _ _ _ _ _ _); simp -implicitDefEqProofs (disch := omega) only [go_sem]) | (with_reducible refine Imp.out ‹Imp _ _› ?_; (try simp only [TX, Nat.reduceBEq])) | assumption | omega | exact trivial | (simp only [LX]; omega)
  · rw [addQ_1 (by assumption)]
  · exact cmpN_nonneg.1 (by assumption)
  · rw [addQ_2 (by assumption) (cmpN_nonneg.1 (by assumption))]
  · exact Nat.le_of_lt (cmpN_neg.1 (by assumption))
  · rw [addQ_3 (by assumption) (cmpN_neg.1 (by assumption))]
instance (b : Bool) (m n : Nat) (c : Bool) (u v : Nat) : Con CC 62 [.d (.agg [.b b, encD (digs m), encD (digs n)]), .d (.agg [.b c, encD (digs u), encD (digs v)])] (lenQ 800 ⟨b, m, n⟩ ∧ lenQ 800 ⟨c, u, v⟩) (.d (encQ (addQ ⟨b, m, n⟩ (negQ ⟨c, u, v⟩)))) := by
  constructor; rintro ⟨ha, hb⟩
  have hb2 := negQ_len hb
  have hb3 := hb.1
  simp only at hb3
  refine Den.pureI Tryz.func62 rfl 2 [.cell 4 37] (by kernel_rfl) rfl rfl (by simp only [initE_nil, initE_cons, Nat.reduceAdd]; exact rfl) ?_
  repeat' first | ((with_reducible first | refine wC ?_ | refine wC0 ?_); (first | with_reducible refine pN ?_ rfl ?_ | (refine pcDn ?_; first | with_reducible refine pN ?_ rfl ?_))) | (with_reducible refine nx ?_; simp -implicitDefEqProofs (disch := omega) only [go_sem]) | (with_reducible show Wp _ _ _ _ _ _; first | refine rR ?_ | refine Wp.skip ?_ | refine Wp.ret ?_ | refine Wp.exit ?_ | refine Wp.drawR (by decide +kernel) ?_ | refine Wp.drawSR [2, 3, 4] [false, false, true, true, true] (.op 2 [0] (.op 3 [] (.op 4 [] .done))) (by decide +kernel) ?_ | refine Wp.label ?_ | refine wS fun K hK => ?_ | refine wB fun K hK => ?_ | refine wE ?_) | (with_reducible show _ ∧ _; (first | refine an ?_ | refine And.intro ?_ ?_)) | (with_reducible show bcase _ _ _; first | refine bcaseT ?_ | refine bcaseF ?_ | (refine bcase_s ?_ ?_ <;> intro h <;> (first | subst h | (try simp only [FX, LX] at h)))) | (with_reducible show gcase _ _ _ _; first | refine gcaseTT ?_ | refine gcaseTF ?_ | refine gcaseFT ?_ | refine gcaseFF ?_ | refine gcaseU ?_ | ((first | refine wGt ?_ ?_ | refine wGf ?_ ?_) <;> intro h <;> (first | subst h | (simp only [h]; (try simp only [FX, LX] at h))))) | ((with_reducible refine wCq ?_); (first | with_reducible refine pQ ?_ rfl (by first | exact .inl rfl | exact .inr rfl) ?_ | (refine pcDQn ?_; first | with_reducible refine pQ ?_ rfl (by first | exact .inl rfl | exact .inr rfl) ?_))) | (with_reducible first | refine wG ?_ | refine wGq ?_ | refine r1_append ?_ | refine nilB_pos (by omega) ?_ | refine nilB_i fun b hb => ?_ | refine wGqA ?_ | refine wGl ?_ | refine wGt2 ?_) | ((with_reducible first | show qA _ _ _ _ _ _ | show lateR _ _ _ _ _ _ | show trR _ _ _ _ _ _); simp -implicitDefEqProofs (disch := omega) only [go_sem]) | (with_reducible refine Imp.out ‹Imp _ _› ?_; (try simp only [TX, Nat.reduceBEq])) | assumption | omega | exact trivial | (simp only [LX]; omega)
instance (b : Bool) (m n : Nat) (c : Bool) (u v : Nat) : Con CC 32 [.d (.agg [.b b, encD (digs m), encD (digs n)]), .d (.agg [.b c, encD (digs u), encD (digs v)])] (lenQ 800 ⟨b, m, n⟩ ∧ lenQ 800 ⟨c, u, v⟩) (.d (.i (cmpQ ⟨b, m, n⟩ ⟨c, u, v⟩))) := by
  constructor; rintro ⟨ha, hb⟩
  have hs := addQ_len ha (negQ_len hb)
  have hs1 := hs.1
  have e := cmpQ_sub (a := ⟨b, m, n⟩) (b := ⟨c, u, v⟩) ha.2.2 hb.2.2
  refine Den.pureI Tryz.func32 rfl 2 [.tmp 4] (by kernel_rfl) rfl rfl (by simp only [initE_nil, initE_cons, Nat.reduceAdd]; exact rfl) ?_
  repeat' first | ((with_reducible first | refine wC ?_ | refine wC0 ?_); (first | with_reducible refine pN ?_ rfl ?_ | (refine pcDn ?_; first | with_reducible refine pN ?_ rfl ?_))) | (with_reducible refine nx ?_; simp -implicitDefEqProofs (disch := omega) only [go_sem]) | (with_reducible show Wp _ _ _ _ _ _; first | refine rR ?_ | refine Wp.skip ?_ | refine Wp.ret ?_ | refine Wp.exit ?_ | refine rD ?_ | refine Wp.label ?_ | refine wS fun K hK => ?_ | refine wB fun K hK => ?_ | refine wE ?_) | (with_reducible show _ ∧ _; (first | refine an ?_ | refine And.intro ?_ ?_)) | (with_reducible show bcase _ _ _; first | refine bcaseT ?_ | refine bcaseF ?_ | (refine bcase_s ?_ ?_ <;> intro h <;> (first | subst h | (try simp only [FX, LX] at h)))) | (with_reducible show gcase _ _ _ _; first | refine gcaseTT ?_ | refine gcaseTF ?_ | refine gcaseFT ?_ | refine gcaseFF ?_ | refine gcaseU ?_ | ((first | refine wGt ?_ ?_ | refine wGf ?_ ?_) <;> intro h <;> (first | subst h | (simp only [h]; (try simp only [FX, LX] at h))))) | ((with_reducible refine wCq ?_); (first | with_reducible refine pQ ?_ rfl (by first | exact .inl rfl | exact .inr rfl) ?_ | (refine pcDQn ?_; first | with_reducible refine pQ ?_ rfl (by first | exact .inl rfl | exact .inr rfl) ?_))) | (with_reducible first | refine wG ?_ | refine wGq ?_ | refine r1_append ?_ | refine nilB_pos (by omega) ?_ | refine nilB_i fun b hb => ?_) | (with_reducible refine Imp.out ‹Imp _ _› ?_; (try simp only [TX, Nat.reduceBEq])) | assumption | omega | exact trivial | (simp only [LX]; omega)
  rw [← e]
end Go.PL
