/- A plain machine, sound for the given model, and contracts of functions over it, part 18: A3. Nothing is assumed. -/
import Derived.Test.YtfdjgoapdkpbaaaA2
import Derived.KernelRfl
import Derived.Test.YtfdjgoapdkpbaaaProg
set_option linter.unusedSimpArgs false
set_option linter.unusedVariables false
set_option linter.unusedSectionVars false
/- A3 -/
namespace Go.PL
open Go Go.Proofs
set_option maxRecDepth 10000
set_option maxHeartbeats 4000000
set_option linter.unusedSimpArgs false
set_option linter.unusedVariables false
theorem l01TrimD (l : List Int) (x : Nat) (hx : trim l = digs x) (h : l.length < 4096) : CC 67 [.d (encD l)] [] (.d (encD (digs x))) [] := by
  rw [← hx]; exact Con.ok (C := CC) (by omega : l.length * 8 ≤ 140737488355328)

instance (m n : Nat) : Con CC 60 [.d (encD (digs m)), .d (encD (digs n))] (0 < n ∧ (digs m).length ≤ 2000 ∧ (digs n).length ≤ 2000) (.tup [.d (encD (digs (m / n))), .d (encD (digs (m % n)))]) := by
  constructor; intro ⟨h0, hm, hn⟩
  have hdm := Dig.digs m
  have gm := digs_getD m
  have ol := over_len m
  generalize digs m = a at *
  refine Den.pureI Try.func60 rfl 2 [.tmp 4, .tmp 5] (by kernel_rfl) rfl rfl (by simp only [initE_nil, initE_cons, Nat.reduceAdd]; exact rfl) ?_
  repeat' first | (with_reducible first | refine nx' ?_ | refine n0 ?_ | refine rD ?_ | refine n1 ?_ | refine nilB_i fun b hb => ?_ | refine nP ?_ ?_ | refine nS fun K hK => ?_ | (refine n2 ?_ ?_ <;> intro h <;> first | subst (h : _ = true) | subst (h : _ = false) | skip) | refine And.intro ?_ ?_ | refine nK ‹Imp _ _› ?_) | exact nl | fail
  refine Wp.loopR (fun x : Nat × List Int => ⟨[(0, .d (encD a)), (1, .d (encD (digs n))), (6, .msl 0 0 x.2.length), (7, .d (encD (digs (m / 10000 ^ x.1 % n)))), (8, .d (.i ((x.1 : Int) - 1)))], [.arr 1 (x.2.map .i) false]⟩) (fun x => x.1)
    (fun x => x.1 ≤ a.length ∧ x.2.length = a.length ∧ Dig x.2 ∧ (∀ t : Nat, t < x.1 → x.2.getD t 0 = 0) ∧ val x.2 = 10000 ^ x.1 * ((m / 10000 ^ x.1 / n : Nat) : Int)) (a.length, List.replicate a.length 0)
    ?_ ⟨by simp, by simp, Dig.zeros _, fun t ht => by simp [List.getD, ht], by rw [val_zeros]; simp [ol]⟩ ?_
  · refine Weak.thaw1 (t := 7) (o := 1) (off := 0) (len := 0) rfl (by simp -implicitDefEqProofs (disch := omega) only [go_sem]) ?_
    simp -implicitDefEqProofs (disch := omega) only [go_sem]
    exact (Weak.cut (by simp -implicitDefEqProofs (disch := omega) only [go_sem, sub_nil, sub_cons, LX, ol, Nat.zero_mod, digs_zero]; try ((repeat' refine And.intro ?_ ?_) <;> first | rfl | trivial | (congr 3; omega) | (congr 1; omega))) rfl (by simp) rfl rfl)
  rintro ⟨k, o⟩ ⟨hk, hl, hd, hz, hv⟩ K hK
  simp only at hk hl hd hz hv ⊢
  rcases k with _ | j
  · repeat' first | (with_reducible first | refine nx' ?_ | refine n0 ?_ | refine rD ?_ | refine n1 ?_ | refine nilB_i fun b hb => ?_ | refine nPc (l01TrimD _ (m / n) ?_ ?_) ?_ | refine nP ?_ ?_ | refine nS fun K hK => ?_ | (refine n2 ?_ ?_ <;> intro h <;> first | subst (h : _ = true) | subst (h : _ = false) | skip) | refine And.intro ?_ ?_ | refine nK ‹Imp _ _› ?_) | exact nl | fail
    · simp only [Nat.pow_zero, Nat.div_one, Int.pow_zero, Int.one_mul] at hv
      rw [← digs_val hd, hv]; rfl
    · rw [Nat.pow_zero, Nat.div_one]
  · have e1 : (((j + 1 : Nat)) : Int) - 1 = (j : Int) := by omega
    simp only [e1]
    obtain ⟨x, hx⟩ : ∃ x, x = 10000 * (m / 10000 ^ (j + 1) % n) + m / 10000 ^ j % 10000 := ⟨_, rfl⟩
    have hxt : trim (a.getD j 0 :: digs (m / 10000 ^ (j + 1) % n)) = digs x := by rw [gm, trim_cons_digs _ _ (by omega), hx]
    have hrn : m / 10000 ^ (j + 1) % n < n := Nat.mod_lt _ h0
    have hr1 : (digs (m / 10000 ^ (j + 1) % n)).length ≤ (digs n).length := digs_len_mono (by omega)
    have hxn : x < 10000 * n := by omega
    have hxl := digs_len_mul hn hxn
    repeat' first | (with_reducible first | refine nx' ?_ | refine n0 ?_ | refine rD ?_ | refine n1 ?_ | refine nilB_i fun b hb => ?_ | refine nPc (l01TrimD (a.getD j 0 :: digs (m / 10000 ^ (j + 1) % n)) x hxt ?_) ?_ | refine nP ?_ ?_ | refine nS fun K hK => ?_ | (refine n2 ?_ ?_ <;> intro h <;> first | subst (h : _ = true) | subst (h : _ = false) | skip) | refine And.intro ?_ ?_ | refine nK ‹Imp _ _› ?_) | exact nl | fail
    · obtain ⟨f1, f2⟩ := div_fact (M := m / 10000 ^ (j + 1)) (d := m / 10000 ^ j % 10000) h0 hx
      rw [← div_step] at f1 f2
      rw [cmpN_neg] at h
      refine ⟨(j, o), by simp only; omega, ⟨by simp only; omega, hl, hd, fun t ht => hz t (by omega), ?_⟩, (Weak.cut (by simp -implicitDefEqProofs (disch := omega) only [go_sem, sub_nil, sub_cons, LX, f1, Nat.mod_eq_of_lt h]; try ((repeat' refine And.intro ?_ ?_) <;> first | rfl | trivial | (congr 3; omega) | (congr 1; omega))) rfl (by simp) rfl rfl)⟩
      simp only
      rw [hv, f2, Nat.div_eq_of_lt h, Int.pow_succ]
      generalize m / 10000 ^ (j + 1) / n = q
      generalize (10000 : Int) ^ j = p
      rw [show ((10000 * q + 0 : Nat) : Int) = 10000 * (q : Int) by omega]
      grind
    · rw [cmpN_nonneg] at h
      refine Wp.loopR (fun y : Nat × Nat => ⟨[(0, .d (encD a)), (1, .d (encD (digs n))), (6, .msl 0 0 o.length), (7, .d (encD (digs x))), (8, .d (.i j)), (9, .d (.i y.1)), (10, .d (.i y.2))], [.arr 1 (o.map .i) false]⟩) (fun y => y.2 - y.1)
        (fun y => y.1 * n ≤ x ∧ x < y.2 * n ∧ y.1 < y.2 ∧ y.2 ≤ 10000) (0, 10000) Weak.cu ⟨by simp, hxn, by decide, by decide⟩ ?_
      rintro ⟨lo, hi⟩ ⟨g1, g2, g3, g4⟩ K2 hK2
      simp only at g1 g2 g3 g4 ⊢
      have A : (lo : Int) + hi = ((lo + hi : Nat) : Int) := by omega
      have B : (((lo + hi : Nat) : Int)) / 2 = (((lo + hi) / 2 : Nat) : Int) := rfl
      have hmid : (lo + hi) / 2 < 10000 := by omega
      have hmn : n * ((lo + hi) / 2) < 10000 * n := by rw [Nat.mul_comm]; exact Nat.mul_lt_mul_of_pos_right hmid h0
      have hmnl := digs_len_mul hn hmn
      have hml : (digs ((lo + hi) / 2)).length ≤ 1 := digs_len_le (by omega)
      have hlo : n * lo ≤ x := by rw [Nat.mul_comm]; exact g1
      have hlol := digs_len_mono hlo
      have hll : (digs lo).length ≤ 1 := digs_len_le (by omega)
      repeat' first | (with_reducible first | refine nx' ?_ (by simp -implicitDefEqProofs (disch := omega) only [go_sem, A, B]; exact rfl) | refine n0 ?_ | refine rD ?_ | refine n1 ?_ | refine nilB_i fun b hb => ?_ | refine nP ?_ ?_ | refine nS fun K hK => ?_ | (refine n2 ?_ ?_ <;> intro h <;> first | subst (h : _ = true) | subst (h : _ = false) | (simp only [FX, LX, A, B] at h) | skip) | refine And.intro ?_ ?_ | refine nK ‹Imp _ _› ?_) | exact nl | fail
      · rw [cmpN_le] at h
        exact ⟨((lo + hi) / 2, hi), by simp only; omega, ⟨by simp only; rw [Nat.mul_comm]; exact h, g2, by simp only; omega, g4⟩, Weak.lo⟩
      · rw [cmpN_pos] at h
        exact ⟨(lo, (lo + hi) / 2), by simp only; omega, ⟨g1, by simp only; rw [Nat.mul_comm]; exact h, by simp only; omega, by simp only; omega⟩, Weak.lo⟩
      · obtain ⟨f1, f2⟩ := div_fact (M := m / 10000 ^ (j + 1)) (d := m / 10000 ^ j % 10000) h0 hx
        rw [← div_step] at f1 f2
        have hh : hi = lo + 1 := by omega
        have hq : x / n = lo := Nat.div_eq_of_lt_le g1 (by rw [hh] at g2; exact g2)
        have hx2 : x - n * lo = x % n := by rw [Nat.mod_eq_sub_mul_div, hq]
        refine ⟨(j, o.set j lo), by simp only; omega, ⟨by simp only; omega, by simp [hl], hd.set _ (by omega) (by omega), fun t ht => ?_, ?_⟩, (Weak.low (by simp -implicitDefEqProofs (disch := omega) only [go_sem, sub_nil, sub_cons, LX, f1, hx2]; try ((repeat' refine And.intro ?_ ?_) <;> first | rfl | trivial | (congr 3; omega) | (congr 1; omega))))⟩
        · simp only at ht ⊢
          have := hz t (by omega)
          simp only [List.getD] at this ⊢
          rw [List.getElem?_set_ne (by omega)]
          exact this
        · simp only
          rw [val_set (by omega), hz j (by omega), hv, f2, hq, Int.pow_succ]
          generalize m / 10000 ^ (j + 1) / n = q
          generalize (10000 : Int) ^ j = p
          rw [show ((10000 * q + lo : Nat) : Int) = 10000 * (q : Int) + lo by omega]
          grind

instance (m n : Nat) : Con CC 55 [.d (encD (digs m)), .d (encD (digs n))] ((digs m).length ≤ 2000 ∧ (digs n).length ≤ 2000) (.d (encD (digs (Nat.gcd m n)))) := by
  constructor; intro ⟨hm, hn⟩
  refine Den.pureI Try.func55 rfl 2 [.tmp 4] (by kernel_rfl) rfl rfl (by simp only [initE_nil, initE_cons, Nat.reduceAdd]; exact rfl) ?_
  repeat' first | (with_reducible first | refine nx' ?_ | refine n0 ?_ | refine rD ?_ | refine n1 ?_ | refine nilB_i fun b hb => ?_ | refine nP ?_ ?_ | refine nS fun K hK => ?_ | (refine n2 ?_ ?_ <;> intro h <;> first | subst (h : _ = true) | subst (h : _ = false) | skip) | refine And.intro ?_ ?_ | refine nK ‹Imp _ _› ?_) | exact nl | fail
  refine Wp.loopR (fun x : Nat × Nat => ⟨[(0, .d (encD (digs x.1))), (1, .d (encD (digs x.2)))], []⟩) (fun x => x.2)
    (fun x => Nat.gcd x.1 x.2 = Nat.gcd m n ∧ (digs x.1).length ≤ 2000 ∧ (digs x.2).length ≤ 2000) (m, n) Weak.lo ⟨rfl, hm, hn⟩ ?_
  rintro ⟨u, v⟩ ⟨hg, hu, hv⟩ K hK
  simp only at hg hu hv ⊢
  repeat' first | (with_reducible first | refine nx' ?_ | refine n0 ?_ | refine rD ?_ | refine n1 ?_ | refine nilB_i fun b hb => ?_ | refine nP ?_ ?_ | refine nS fun K hK => ?_ | (refine n2 ?_ ?_ <;> intro h <;> first | subst (h : _ = true) | subst (h : _ = false) | skip) | refine And.intro ?_ ?_ | refine nK ‹Imp _ _› ?_) | exact nl | fail
  · rcases Nat.eq_zero_or_pos v with e | e
    · rw [e, digs_zero] at h; simp at h
    · exact e
  · have h0 : 0 < v := by rcases Nat.eq_zero_or_pos v with e | e; (rw [e, digs_zero] at h; simp at h); exact e
    have hlt := Nat.mod_lt u h0
    have hlen := digs_len_mono (Nat.le_of_lt hlt)
    refine ⟨(v, u % v), hlt, ⟨?_, hv, by simp only; omega⟩, Weak.lo⟩
    simp only
    rw [← hg, Nat.gcd_comm v, ← Nat.gcd_rec, Nat.gcd_comm]
  · have e : v = 0 := digs_nil.1 (List.eq_nil_of_length_eq_zero (by omega))
    rw [e, Nat.gcd_zero_right] at hg
    rw [hg]

/-- What a natural is. -/
def okNat (a : List Int) : Bool := decide (a.length ≤ 40 ∧ (∀ t, t < a.length → 0 ≤ a.getD t 0 ∧ a.getD t 0 ≤ 9999) ∧ (a.length = 0 ∨ 0 < a.getD (a.length - 1) 0))

instance (a : List Int) : Con CC 53 [.d (encD a)] (a.length < 4611686018427387904) (.d (.b (okNat a))) := by
  constructor; intro ha
  refine Den.pureI Try.func53 rfl 1 [.tmp 2] (by kernel_rfl) rfl rfl (by simp only [initE_nil, initE_cons, Nat.reduceAdd]; exact rfl) ?_
  repeat' first | (with_reducible first | refine nx' ?_ | refine n0 ?_ | refine rD ?_ | refine n1 ?_ | refine nilB_i fun b hb => ?_ | refine nP ?_ ?_ | refine nS fun K hK => ?_ | (refine n2 ?_ ?_ <;> intro h <;> first | subst (h : _ = true) | subst (h : _ = false) | skip) | refine And.intro ?_ ?_ | refine nK ‹Imp _ _› ?_) | exact nl | fail
  · congr 3
    unfold okNat
    rw [eq_comm, decide_eq_false_iff_not]; omega
  refine Wp.loopR (fun i : Nat => ⟨[(0, .d (encD a)), (3, .d (.i i))], []⟩) (fun i => a.length - i) (fun i => i ≤ a.length ∧ ∀ t, t < i → 0 ≤ a.getD t 0 ∧ a.getD t 0 ≤ 9999) 0 Weak.lo ⟨by simp, by intro t ht; omega⟩ ?_
  rintro i ⟨hi, hd⟩ K hK
  repeat' first | (with_reducible first | refine nx' ?_ | refine n0 ?_ | refine rD ?_ | refine n1 ?_ | refine nilB_i fun b hb => ?_ | refine nP ?_ ?_ | refine nS fun K hK => ?_ | (refine n2 ?_ ?_ <;> intro h <;> first | subst (h : _ = true) | subst (h : _ = false) | skip) | refine And.intro ?_ ?_ | refine nK ‹Imp _ _› ?_) | exact nl | fail
  · congr 3
    unfold okNat
    rw [eq_comm, decide_eq_false_iff_not]
    intro hh
    have := hh.2.1 i (by omega)
    omega
  · exact ⟨i + 1, by omega, ⟨by omega, fun t ht => by rcases (show t < i ∨ t = i by omega) with e | e; exact hd t e; rw [e]; exact h⟩, Weak.lo⟩
  · congr 3
    unfold okNat
    rw [eq_comm, decide_eq_true_eq]
    exact ⟨by omega, fun t ht => hd t (by omega), by omega⟩
  · congr 3
    unfold okNat
    have e : (↑a.length - 1 : Int).toNat = a.length - 1 := by omega
    rw [e, decide_eq_decide]
    exact ⟨fun hp => ⟨by omega, fun t ht => hd t (by omega), .inr hp⟩, fun hp => by rcases hp.2.2 with e | e; omega; exact e⟩
  · congr 3
    unfold okNat
    rw [eq_comm, decide_eq_false_iff_not]; omega
end Go.PL
