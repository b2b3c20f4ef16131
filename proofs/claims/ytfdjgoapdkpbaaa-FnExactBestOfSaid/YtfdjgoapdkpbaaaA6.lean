/- A plain machine, sound for the given model, and contracts of functions over it, part 21: A6. Nothing is assumed. -/
import Derived.Test.YtfdjgoapdkpbaaaG20
import Derived.KernelRfl
import Derived.Test.YtfdjgoapdkpbaaaProg
set_option linter.unusedSimpArgs false
set_option linter.unusedVariables false
set_option linter.unusedSectionVars false
/- A6 -/
namespace Go.PL
open Go Go.Proofs
set_option maxRecDepth 10000
set_option maxHeartbeats 4000000
set_option linter.unusedSimpArgs false
set_option linter.unusedVariables false
instance (b : Bool) (x y : List Int) : Con CC 63 [.d (.agg [.b b, encD x, encD y])] True (.d (.b ((x.length : Int) == 0))) := by
  constructor; intro pre
  refine Den.pureI Try.func63 rfl 1 [.tmp 2] (by kernel_rfl) rfl rfl (by simp only [initE_nil, initE_cons, Nat.reduceAdd]; exact rfl) ?_
  repeat' first | (with_reducible first | refine nx' ?_ | refine n0 ?_ | refine rD ?_ | refine n1 ?_ | refine nilB_i fun b hb => ?_ | refine nP ?_ ?_ | refine nS fun K hK => ?_ | (refine n2 ?_ ?_ <;> intro h <;> first | subst (h : _ = true) | subst (h : _ = false) | skip) | refine And.intro ?_ ?_ | refine nK ‹Imp _ _› ?_) | exact nl | fail
instance : Con CC 66 [] True (.d (encD [1])) := by
  constructor; intro pre
  refine Den.pureI Try.func66 rfl 0 [.tmp 0] (by kernel_rfl) rfl rfl (by simp only [initE_nil, initE_cons, Nat.reduceAdd]; exact rfl) ?_
  repeat' first | (with_reducible first | refine nx' ?_ | refine n0 ?_ | refine rD ?_ | refine n1 ?_ | refine nilB_i fun b hb => ?_ | refine nP ?_ ?_ | refine nS fun K hK => ?_ | (refine n2 ?_ ?_ <;> intro h <;> first | subst (h : _ = true) | subst (h : _ = false) | skip) | refine And.intro ?_ ?_ | refine nK ‹Imp _ _› ?_) | exact nl | fail
instance (x a b : Int) : Con CC 50 [.d (.i x), .d (.i a), .d (.i b)] True (.d (.b (decide (a ≤ x) && decide (x ≤ b)))) := by
  constructor; intro pre
  refine Den.pureI Try.func50 rfl 3 [.tmp 6] (by kernel_rfl) rfl rfl (by simp only [initE_nil, initE_cons, Nat.reduceAdd]; exact rfl) ?_
  repeat' first | (with_reducible first | refine nx' ?_ | refine n0 ?_ | refine rD ?_ | refine n1 ?_ | refine nilB_i fun b hb => ?_ | refine nP ?_ ?_ | refine nS fun K hK => ?_ | (refine n2 ?_ ?_ <;> intro h <;> first | subst (h : _ = true) | subst (h : _ = false) | skip) | refine And.intro ?_ ?_ | refine nK ‹Imp _ _› ?_) | exact nl | fail
  all_goals (first | omega | exact Or.inr trivial | (congr 3; simp [*]; done) | (congr 3; simp [*]; omega) | skip)
instance (b : Bool) (c : Int) : Con CC 19 [.d (.b b), .d (.i c)] True (.d (.i (if b then 0 else c))) := by
  constructor; intro pre
  refine Den.pureI Try.func19 rfl 2 [.tmp 4] (by kernel_rfl) rfl rfl (by simp only [initE_nil, initE_cons, Nat.reduceAdd]; exact rfl) ?_
  repeat' first | (with_reducible first | refine nx' ?_ | refine n0 ?_ | refine rD ?_ | refine n1 ?_ | refine nilB_i fun b hb => ?_ | refine nP ?_ ?_ | refine nS fun K hK => ?_ | (refine n2 ?_ ?_ <;> intro h <;> first | subst (h : _ = true) | subst (h : _ = false) | skip) | refine And.intro ?_ ?_ | refine nK ‹Imp _ _› ?_) | exact nl | fail
instance (a : List Int) : Con CC 80 [.d (encD a)] (a.length ≤ 1048576) (.d (encD (trim a))) := by
  constructor; intro ha
  refine Den.pureI Try.func80 rfl 1 [.tmp 2] (by kernel_rfl) rfl rfl (by simp only [initE_nil, initE_cons, Nat.reduceAdd]; exact rfl) ?_
  repeat' first | (with_reducible first | refine nx' ?_ | refine n0 ?_ | refine rD ?_ | refine n1 ?_ | refine nilB_i fun b hb => ?_ | refine nP ?_ ?_ | refine nS fun K hK => ?_ | (refine n2 ?_ ?_ <;> intro h <;> first | subst (h : _ = true) | subst (h : _ = false) | skip) | refine And.intro ?_ ?_ | refine nK ‹Imp _ _› ?_) | exact nl | fail
  refine Wp.loopR (fun k : Nat => ⟨[(0, .d (encD a)), (3, .d (.i k))], []⟩) (fun k => k) (fun k => k ≤ a.length ∧ trim (a.take k) = trim a) a.length Weak.lo ⟨Nat.le_refl _, by simp⟩ ?_
  rintro k ⟨hk, ht⟩ K hK
  repeat' first | (with_reducible first | refine nx' ?_ | refine n0 ?_ | refine rD ?_ | refine n1 ?_ | refine nilB_i fun b hb => ?_ | refine nP ?_ ?_ | refine nS fun K hK => ?_ | (refine n2 ?_ ?_ <;> intro h <;> first | subst (h : _ = true) | subst (h : _ = false) | skip) | refine And.intro ?_ ?_ | refine nK ‹Imp _ _› ?_) | exact nl | fail
  · exact ⟨k - 1, by omega, ⟨by omega, by rw [trim_take_zero (by omega) hk (by rw [← h]; congr 1; omega), ht]⟩, (Weak.low (by simp -implicitDefEqProofs (disch := omega) only [go_sem, sub_nil, sub_cons, LX, show ((k - 1 : Nat) : Int) = (k : Int) - 1 by omega]; try ((repeat' refine And.intro ?_ ?_) <;> first | rfl | trivial | (congr 3; omega) | (congr 1; omega))))⟩
  · rw [← ht, trim_take_ne (by omega) hk (by intro e; exact h (by rw [← e]; congr 1; omega))]
  · obtain rfl : k = 0 := by omega
    rw [← ht]; rfl
instance (n : Nat) : Con CC 81 [.d (.i n)] (n < 1000000000000) (.d (encD (digs n))) := by
  constructor; intro hn
  refine Den.pureI Try.func81 rfl 1 [.tmp 2] (by kernel_rfl) rfl rfl (by simp only [initE_nil, initE_cons, Nat.reduceAdd]; exact rfl) ?_
  repeat' first | (with_reducible first | refine nx' ?_ | refine n0 ?_ | refine rD ?_ | refine n1 ?_ | refine nilB_i fun b hb => ?_ | refine nP ?_ ?_ | refine nS fun K hK => ?_ | (refine n2 ?_ ?_ <;> intro h <;> first | subst (h : _ = true) | subst (h : _ = false) | skip) | refine And.intro ?_ ?_ | refine nK ‹Imp _ _› ?_) | exact nl | fail
  refine Wp.loopR (fun x : Nat × List Int => ⟨[(0, .d (.i x.1)), (3, .msl 0 0 x.2.length)], [.arr 1 (x.2.map .i) false]⟩) (fun x => x.1) (fun x => x.2 ++ digs x.1 = digs n ∧ x.1 ≤ n) (n, []) Weak.lo ⟨by simp, Nat.le_refl _⟩ ?_
  rintro ⟨k, l⟩ ⟨hl, hk⟩ K hK
  simp only at hl hk ⊢
  have hlen : l.length + (digs k).length = (digs n).length := by rw [← hl, List.length_append]
  have hlen2 : (digs n).length ≤ 3 := digs_len_le (by simpa using hn)
  have e1 : (k : Int) / 10000 = ((k / 10000 : Nat) : Int) := rfl
  have e2 : (k : Int) % 10000 = ((k % 10000 : Nat) : Int) := rfl
  repeat' first | (with_reducible first | refine nx' ?_ (by simp -implicitDefEqProofs (disch := omega) only [go_sem, e1, e2]; exact rfl) | refine n0 ?_ | refine rD ?_ | refine n1 ?_ | refine nilB_i fun b hb => ?_ | refine nP ?_ ?_ | refine nS fun K hK => ?_ | (refine n2 ?_ ?_ <;> intro h <;> first | subst (h : _ = true) | subst (h : _ = false) | (simp only [FX, LX, e1, e2] at h) | skip) | refine And.intro ?_ ?_ | refine nK ‹Imp _ _› ?_) | exact nl | fail
  · refine ⟨(k / 10000, l ++ [((k % 10000 : Nat) : Int)]), by simp only; omega, ⟨?_, by simp only; omega⟩, Weak.cu⟩
    simp only
    rw [← hl, digs_pos (by omega : 0 < k)]; simp
  · obtain rfl : k = 0 := by omega
    rw [digs_zero, List.append_nil] at hl
    rw [hl]
instance (x : Int) : Con CC 74 [.d (.i x)] True (.d (.b (!(decide (0 ≤ x) && decide (x ≤ 9999))))) := by
  constructor; intro pre
  refine Den.pureI Try.func74 rfl 1 [.tmp 2] (by kernel_rfl) rfl rfl (by simp only [initE_nil, initE_cons, Nat.reduceAdd]; exact rfl) ?_
  repeat' first | (with_reducible first | refine nx' ?_ | refine n0 ?_ | refine rD ?_ | refine n1 ?_ | refine nilB_i fun b hb => ?_ | refine nP ?_ ?_ | refine nS fun K hK => ?_ | (refine n2 ?_ ?_ <;> intro h <;> first | subst (h : _ = true) | subst (h : _ = false) | skip) | refine And.intro ?_ ?_ | refine nK ‹Imp _ _› ?_) | exact nl | fail
  · congr 3
    rw [Bool.eq_iff_iff]; simp; omega
  · congr 3
    rw [Bool.eq_iff_iff]; simp; omega

theorem indexFunc_i (g : FuncId) (cap : List D) (p : Int → Bool) (hp : ∀ x : Int, CC g (.d (.i x) :: dV cap) [] (.d (.b (p x))) []) (a : List Int) (ha : a.length < 4611686018427387904) :
    CC 78 [.d (encD a), .d (.fn (.func g) [] cap)] [] (.d (.i (idxOf p a))) [] := by
  refine Den.pureI Try.func78 rfl 2 [.tmp 4] (by kernel_rfl) rfl rfl (by simp only [initE_nil, initE_cons, Nat.reduceAdd]; exact rfl) ?_
  repeat' first | (with_reducible first | refine nx' ?_ | refine n0 ?_ | refine rD ?_ | refine n1 ?_ | refine nilB_i fun b hb => ?_ | refine nP ?_ ?_ | refine nS fun K hK => ?_ | (refine n2 ?_ ?_ <;> intro h <;> first | subst (h : _ = true) | subst (h : _ = false) | skip) | refine And.intro ?_ ?_ | refine nK ‹Imp _ _› ?_) | exact nl | fail
  refine Wp.loopR (fun i : Nat => ⟨[(0, .d (encD a)), (1, .d (.fn (.func g) [] cap)), (7, .d (.i a.length)), (8, .d (.i i))], []⟩) (fun i => a.length - i) (fun i => i ≤ a.length ∧ ∀ t, t < i → p (a.getD t 0) = false) 0 Weak.lo ⟨by simp, by intro t ht; omega⟩ ?_
  rintro i ⟨hi, hd⟩ K hK
  repeat' first | (with_reducible first | refine nx' ?_ | refine n0 ?_ | refine rD ?_ | refine n1 ?_ | refine nilB_i fun b hb => ?_ | refine nPc (hp _) ?_ | refine nP ?_ ?_ | refine nS fun K hK => ?_ | (refine n2 ?_ ?_ <;> intro h <;> first | subst (h : _ = true) | subst (h : _ = false) | skip) | refine And.intro ?_ ?_ | refine nK ‹Imp _ _› ?_) | exact nl | fail
  · rw [idxOf_at 0 a i (by omega) hd h]
  · exact ⟨i + 1, by omega, ⟨by omega, fun t ht => by rcases (show t < i ∨ t = i by omega) with e | e; exact hd t e; rw [e]; exact h⟩, Weak.lo⟩
  · rw [idxOf_none 0 a fun t ht => hd t (by omega)]
theorem indexFunc_R (g : FuncId) (cap : List D) (p : Rt → Bool) (a : List Rt) (ha : a.length < 4611686018427387904) (hp : ∀ x ∈ a, CC g (.d (encR x) :: dV cap) [] (.d (.b (p x))) []) :
    CC 77 [.d (.sl (a.map encR)), .d (.fn (.func g) [] cap)] [] (.d (.i (idxOf p a))) [] := by
  refine Den.pureI Try.func77 rfl 2 [.tmp 4] (by kernel_rfl) rfl rfl (by simp only [initE_nil, initE_cons, Nat.reduceAdd]; exact rfl) ?_
  repeat' first | (with_reducible first | refine nx' ?_ | refine n0 ?_ | refine rD ?_ | refine n1 ?_ | refine nilB_i fun b hb => ?_ | refine nP ?_ ?_ | refine nS fun K hK => ?_ | (refine n2 ?_ ?_ <;> intro h <;> first | subst (h : _ = true) | subst (h : _ = false) | skip) | refine And.intro ?_ ?_ | refine nK ‹Imp _ _› ?_) | exact nl | fail
  refine Wp.loopR (fun i : Nat => ⟨[(0, .d (.sl (a.map encR))), (1, .d (.fn (.func g) [] cap)), (7, .d (.i a.length)), (8, .d (.i i))], []⟩) (fun i => a.length - i) (fun i => i ≤ a.length ∧ ∀ t, t < i → p (a.getD t ⟨false, [], []⟩) = false) 0 Weak.lo ⟨by simp, by intro t ht; omega⟩ ?_
  rintro i ⟨hi, hd⟩ K hK
  by_cases hil : i < a.length
  · have hpi := hp _ (getD_mem ⟨false, [], []⟩ hil)
    simp only [encR_eq] at hpi
    repeat' first | (with_reducible first | refine nx' ?_ | refine n0 ?_ | refine rD ?_ | refine n1 ?_ | refine nilB_i fun b hb => ?_ | refine nPc (hpi) ?_ | refine nP ?_ ?_ | refine nS fun K hK => ?_ | (refine n2 ?_ ?_ <;> intro h <;> first | subst (h : _ = true) | subst (h : _ = false) | skip) | refine And.intro ?_ ?_ | refine nK ‹Imp _ _› ?_) | exact nl | fail
    · rw [idxOf_at _ a i (by omega) hd h]
    · exact ⟨i + 1, by omega, ⟨by omega, fun t ht => by rcases (show t < i ∨ t = i by omega) with e | e; exact hd t e; rw [e]; exact h⟩, Weak.lo⟩
  · repeat' first | (with_reducible first | refine nx' ?_ | refine n0 ?_ | refine rD ?_ | refine n1 ?_ | refine nilB_i fun b hb => ?_ | refine nP ?_ ?_ | refine nS fun K hK => ?_ | (refine n2 ?_ ?_ <;> intro h <;> first | subst (h : _ = true) | subst (h : _ = false) | skip) | refine And.intro ?_ ?_ | refine nK ‹Imp _ _› ?_) | exact nl | fail
    rw [idxOf_none _ a fun t ht => hd t (by omega)]

theorem containsFunc_i (g : FuncId) (cap : List D) (p : Int → Bool) (hp : ∀ x : Int, CC g (.d (.i x) :: dV cap) [] (.d (.b (p x))) []) (a : List Int) (ha : a.length < 4611686018427387904) :
    CC 73 [.d (encD a), .d (.fn (.func g) [] cap)] [] (.d (.b (a.any p))) [] := by
  refine Den.pureI Try.func73 rfl 2 [.tmp 4] (by kernel_rfl) rfl rfl (by simp only [initE_nil, initE_cons, Nat.reduceAdd]; exact rfl) ?_
  repeat' first | (with_reducible first | refine nx' ?_ | refine n0 ?_ | refine rD ?_ | refine n1 ?_ | refine nilB_i fun b hb => ?_ | refine nPc (indexFunc_i g cap p hp a ha) ?_ | refine nP ?_ ?_ | refine nS fun K hK => ?_ | (refine n2 ?_ ?_ <;> intro h <;> first | subst (h : _ = true) | subst (h : _ = false) | skip) | refine And.intro ?_ ?_ | refine nK ‹Imp _ _› ?_) | exact nl | fail
  rw [idxOf_any]
theorem containsFunc_R (g : FuncId) (cap : List D) (p : Rt → Bool) (a : List Rt) (ha : a.length < 4611686018427387904) (hp : ∀ x ∈ a, CC g (.d (encR x) :: dV cap) [] (.d (.b (p x))) []) :
    CC 71 [.d (.sl (a.map encR)), .d (.fn (.func g) [] cap)] [] (.d (.b (a.any p))) [] := by
  refine Den.pureI Try.func71 rfl 2 [.tmp 4] (by kernel_rfl) rfl rfl (by simp only [initE_nil, initE_cons, Nat.reduceAdd]; exact rfl) ?_
  repeat' first | (with_reducible first | refine nx' ?_ | refine n0 ?_ | refine rD ?_ | refine n1 ?_ | refine nilB_i fun b hb => ?_ | refine nPc (indexFunc_R g cap p a ha hp) ?_ | refine nP ?_ ?_ | refine nS fun K hK => ?_ | (refine n2 ?_ ?_ <;> intro h <;> first | subst (h : _ = true) | subst (h : _ = false) | skip) | refine And.intro ?_ ?_ | refine nK ‹Imp _ _› ?_) | exact nl | fail
  rw [idxOf_any]

instance (a : List Int) : Con CC 62 [.d (encD a)] (a.length < 4611686018427387904) (.d (.b (okNat a))) := by
  constructor; intro ha
  have hp : ∀ x : Int, CC 74 (.d (.i x) :: dV []) [] (.d (.b (!(decide (0 ≤ x) && decide (x ≤ 9999))))) [] := fun x => Con.ok (C := CC) (vs := [.d (.i x)]) trivial
  have hc := containsFunc_i 74 [] (fun x => !(decide (0 ≤ x) && decide (x ≤ 9999))) hp a ha
  have key : (!a.any fun x => !(decide (0 ≤ x) && decide (x ≤ 9999))) = decide (∀ t, t < a.length → 0 ≤ a.getD t 0 ∧ a.getD t 0 ≤ 9999) := by
    rw [Bool.eq_iff_iff, decide_eq_true_eq]
    simp only [Bool.not_eq_true', List.any_eq_false, Bool.not_eq_false', Bool.and_eq_true, decide_eq_true_eq, Bool.not_eq_true', Bool.not_eq_true, Bool.and_eq_false_iff, decide_eq_false_iff_not]
    exact ⟨fun h t ht => by have := h _ (getD_mem 0 ht); omega, fun h x hx => by obtain ⟨i, hi, rfl⟩ := List.getElem_of_mem hx; have := h i hi; simp only [List.getD, List.getElem?_eq_getElem hi, Option.getD_some] at this; omega⟩
  refine Den.pureI Try.func62 rfl 1 [.tmp 2] (by kernel_rfl) rfl rfl (by simp only [initE_nil, initE_cons, Nat.reduceAdd]; exact rfl) ?_
  repeat' first | (with_reducible first | refine nx' ?_ | refine n0 ?_ | refine rD ?_ | refine n1 ?_ | refine nilB_i fun b hb => ?_ | refine nPc (hc) ?_ | refine nP ?_ ?_ | refine nS fun K hK => ?_ | (refine n2 ?_ ?_ <;> intro h <;> first | subst (h : _ = true) | subst (h : _ = false) | skip) | refine And.intro ?_ ?_ | refine nK ‹Imp _ _› ?_) | exact nl | fail
  · congr 3; unfold okNat; rw [eq_comm, decide_eq_false_iff_not]; omega
  · congr 3; unfold okNat; rw [eq_comm, decide_eq_false_iff_not]
    rw [show (↑a.length - 1 : Int).toNat = a.length - 1 by omega] at h; omega
  · congr 3; rw [key]; unfold okNat; rw [decide_eq_decide]
    rw [show (↑a.length - 1 : Int).toNat = a.length - 1 by omega] at h
    exact ⟨fun g => ⟨by omega, g, .inr (by have := g (a.length - 1) (by omega); omega)⟩, fun g => g.2.1⟩
  · congr 3; rw [key]; unfold okNat; rw [decide_eq_decide]
    exact ⟨fun g => ⟨by omega, g, .inl (by omega)⟩, fun g => g.2.1⟩

instance (a : List Int) : Con CC 39 [.d (encD a)] (a.length ≤ 1048576) (.d (encD a)) := by
  constructor; intro ha
  refine Den.pureI Try.func39 rfl 1 [.tmp 2] (by kernel_rfl) rfl rfl (by simp only [initE_nil, initE_cons, Nat.reduceAdd]; exact rfl) ?_
  repeat' first | (with_reducible first | refine nx' ?_ | refine n0 ?_ | refine rD ?_ | refine n1 ?_ | refine nilB_i fun b hb => ?_ | refine nP ?_ ?_ | refine nS fun K hK => ?_ | (refine n2 ?_ ?_ <;> intro h <;> first | subst (h : _ = true) | subst (h : _ = false) | skip) | refine And.intro ?_ ?_ | refine nK ‹Imp _ _› ?_) | exact nl | fail
  have e : a = [] := by
    rcases Nat.eq_zero_or_pos a.length with e | e
    · exact List.eq_nil_of_length_eq_zero e
    · cases hb e
  subst e; rfl
end Go.PL
