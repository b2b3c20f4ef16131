/- A plain machine, sound for the given model, and contracts of functions over it, part 27: AB. Nothing is assumed. -/
import Derived.Test.YtfdjgoapdkpbaaaAA
set_option linter.unusedSimpArgs false
set_option linter.unusedVariables false
set_option linter.unusedSectionVars false
/- AB -/
namespace Go.PL
open Go Go.Proofs
set_option maxRecDepth 10000
set_option maxHeartbeats 4000000
set_option linter.unusedSimpArgs false
set_option linter.unusedVariables false
instance (m n : Nat) : Con CC 76 [.d (encD (digs m)), .d (encD (digs n))] (0 < n ∧ (digs m).length < 1000000 ∧ (digs n).length < 1000000) (.tup [.d (encD (digs (m / n))), .d (encD (digs (m % n)))]) := by
  constructor; intro ⟨h0, h1, h2⟩
  exact natDiv_c m n h0 h1 h2
instance (m n : Nat) : Con CC 65 [.d (encD (digs m)), .d (encD (digs n))] ((digs m).length ≤ 2000 ∧ (digs n).length ≤ 2000) (.d (encD (digs (Nat.gcd m n)))) := by
  constructor; intro ⟨hm, hn⟩
  refine Den.pureI Try.func65 rfl 2 [.tmp 4] (by kernel_rfl) rfl rfl (by simp only [initE_nil, initE_cons, Nat.reduceAdd]; exact rfl) ?_
  repeat' first | (with_reducible first | refine nx' ?_ | refine n0 ?_ | refine rD ?_ | refine n1 ?_ | refine nilB_i fun b hb => ?_ | refine nP ?_ ?_ | refine nS fun K hK => ?_ | (refine n2 ?_ ?_ <;> intro h <;> first | subst (h : _ = true) | subst (h : _ = false) | skip) | refine And.intro ?_ ?_ | refine nK ‹Imp _ _› ?_) | exact nl | fail
  refine Wp.loopR (fun x : Nat × Nat => ⟨[(0, .d (encD (digs x.1))), (1, .d (encD (digs x.2)))], []⟩) (fun x => x.2)
    (fun x => Nat.gcd x.1 x.2 = Nat.gcd m n ∧ (digs x.1).length ≤ 2000 ∧ (digs x.2).length ≤ 2000) (m, n) Weak.lo ⟨rfl, hm, hn⟩ ?_
  rintro ⟨u, v⟩ ⟨hg, hu, hv⟩ K hK
  simp only at hg hu hv ⊢
  repeat' first | (with_reducible first | refine nx' ?_ | refine n0 ?_ | refine rD ?_ | refine n1 ?_ | refine nilB_i fun b hb => ?_ | refine nP ?_ ?_ | refine nS fun K hK => ?_ | (refine n2 ?_ ?_ <;> intro h <;> first | subst (h : _ = true) | subst (h : _ = false) | skip) | refine And.intro ?_ ?_ | refine nK ‹Imp _ _› ?_) | exact nl | fail
  · rcases Nat.eq_zero_or_pos v with e | e
    · rw [e, digs_zero] at h; simp at h
    · exact e
  · have h0 : 0 < v := by rcases Nat.eq_zero_or_pos v with e | e; (rw [e, digs_zero] at h; simp at h); exact e
    have hlt := Nat.mod_lt u h0
    have hlen := digs_len_mono (Nat.le_of_lt hlt)
    refine ⟨(v, u % v), hlt, ⟨?_, hv, by simp only; omega⟩, Weak.lo⟩
    simp only
    rw [← hg, Nat.gcd_comm v, ← Nat.gcd_rec, Nat.gcd_comm]
  · have e : v = 0 := digs_nil.1 (List.eq_nil_of_length_eq_zero (by omega))
    rw [e, Nat.gcd_zero_right] at hg
    rw [hg]
instance (m : Nat) : Con CC 64 [.d (encD (digs m)), .d (encD [1])] ((digs m).length < 1048576) (.d (.i (cmpN m 1))) := 
  ⟨fun h => by rw [← digs_one]; exact Con.ok ⟨h, by rw [digs_one]; decide⟩⟩
theorem gcd_len2 {m n : Nat} (h : 0 < n) (hn : (digs n).length ≤ 2000) : (digs (Nat.gcd m n)).length < 1048576 := by
  have := digs_len_mono (Nat.le_of_dvd h (Nat.gcd_dvd_right m n)); omega
instance (b : Bool) (x y : List Int) : Con CC 58 [.d (.agg [.b b, encD x, encD y])] (x.length < 4611686018427387904 ∧ y.length < 4611686018427387904) (.d (.b (okRat ⟨b, x, y⟩))) := by
  constructor; intro ⟨h1, h2⟩
  rcases okNat_cases x with ⟨m, rfl, hm⟩ | hx
  · have em := okNat_of_digs hm
    rcases okNat_cases y with ⟨n, rfl, hn⟩ | hy
    · have en := okNat_of_digs hn
      refine Den.pureI Try.func58 rfl 1 [.tmp 2] (by kernel_rfl) rfl rfl (by simp only [initE_nil, initE_cons, Nat.reduceAdd]; exact rfl) ?_
      repeat' first | (with_reducible first | refine nx' ?_ (by simp -implicitDefEqProofs (disch := omega) only [go_sem, em, en]; exact rfl) | refine n0 ?_ | refine rD ?_ | refine n1 ?_ | refine nilB_i fun b hb => ?_ | refine nP ?_ ?_ | refine nS fun K hK => ?_ | (refine n2 ?_ ?_ <;> intro h <;> first | subst (h : _ = true) | subst (h : _ = false) | (simp only [FX, LX, em, en] at h) | skip) | refine And.intro ?_ ?_ | refine nK ‹Imp _ _› ?_) | exact nl | fail
      all_goals (try simp only [digs_len0, ne_eq] at *)
      all_goals (first | (rw [okRat_digs hm hn]; simp [cmpN_eq, *]; done) | exact gcd_len2 (by omega) (by omega))
    · refine Den.pureI Try.func58 rfl 1 [.tmp 2] (by kernel_rfl) rfl rfl (by simp only [initE_nil, initE_cons, Nat.reduceAdd]; exact rfl) ?_
      repeat' first | (with_reducible first | refine nx' ?_ (by simp -implicitDefEqProofs (disch := omega) only [go_sem, em, hy]; exact rfl) | refine n0 ?_ | refine rD ?_ | refine n1 ?_ | refine nilB_i fun b hb => ?_ | refine nP ?_ ?_ | refine nS fun K hK => ?_ | (refine n2 ?_ ?_ <;> intro h <;> first | subst (h : _ = true) | subst (h : _ = false) | (simp only [FX, LX, em, hy] at h) | skip) | refine And.intro ?_ ?_ | refine nK ‹Imp _ _› ?_) | exact nl | fail
      all_goals (simp [okRat, em, hy])
  · refine Den.pureI Try.func58 rfl 1 [.tmp 2] (by kernel_rfl) rfl rfl (by simp only [initE_nil, initE_cons, Nat.reduceAdd]; exact rfl) ?_
    repeat' first | (with_reducible first | refine nx' ?_ (by simp -implicitDefEqProofs (disch := omega) only [go_sem, hx]; exact rfl) | refine n0 ?_ | refine rD ?_ | refine n1 ?_ | refine nilB_i fun b hb => ?_ | refine nP ?_ ?_ | refine nS fun K hK => ?_ | (refine n2 ?_ ?_ <;> intro h <;> first | subst (h : _ = true) | subst (h : _ = false) | (simp only [FX, LX, hx] at h) | skip) | refine And.intro ?_ ?_ | refine nK ‹Imp _ _› ?_) | exact nl | fail
    all_goals (simp [okRat, hx])

instance (b : Bool) (x y : List Int) : Con CC 72 [.d (.agg [.b b, encD x, encD y])] (x.length < 4611686018427387904 ∧ y.length < 4611686018427387904) (.d (.b (!okRat ⟨b, x, y⟩))) := by
  constructor; intro ⟨h1, h2⟩
  refine Den.pureI Try.func72 rfl 1 [.tmp 2] (by kernel_rfl) rfl rfl (by simp only [initE_nil, initE_cons, Nat.reduceAdd]; exact rfl) ?_
  repeat' first | (with_reducible first | refine nx' ?_ | refine n0 ?_ | refine rD ?_ | refine n1 ?_ | refine nilB_i fun b hb => ?_ | refine nP ?_ ?_ | refine nS fun K hK => ?_ | (refine n2 ?_ ?_ <;> intro h <;> first | subst (h : _ = true) | subst (h : _ = false) | skip) | refine And.intro ?_ ?_ | refine nK ‹Imp _ _› ?_) | exact nl | fail
instance (l : List Rt) : Con CC 61 [.d (.sl (l.map encR))] (bV l) (.d (.i (if l.all okRat then 0 else 1))) := by
  constructor; intro hb
  have hp : ∀ x ∈ l, CC 72 (.d (encR x) :: dV []) [] (.d (.b (!okRat x))) [] := fun x hx => by
    have h := hb.2 x hx
    exact Con.ok (C := CC) (vs := [.d (.agg [.b x.neg, encD x.num, encD x.den])]) ⟨by have := h.1; omega, by have := h.2; omega⟩
  have hc := containsFunc_R 72 [] (fun x => !okRat x) l (by have := hb.1; omega) hp
  refine Den.pureI Try.func61 rfl 1 [.tmp 2] (by kernel_rfl) rfl rfl (by simp only [initE_nil, initE_cons, Nat.reduceAdd]; exact rfl) ?_
  repeat' first | (with_reducible first | refine nx' ?_ | refine n0 ?_ | refine rD ?_ | refine n1 ?_ | refine nilB_i fun b hb => ?_ | refine nPc (hc) ?_ | refine nP ?_ ?_ | refine nS fun K hK => ?_ | (refine n2 ?_ ?_ <;> intro h <;> first | subst (h : _ = true) | subst (h : _ = false) | skip) | refine And.intro ?_ ?_ | refine nK ‹Imp _ _› ?_) | exact nl | fail
  rw [List.not_any_eq_all_not]
  simp only [Bool.not_not]
instance (l : List Rt) : Con CC 57 [.d (.sl (l.map encR))] (bV l) (.d (.b (okVec l))) := by
  constructor; intro hb
  have hl := hb.1
  have key : l.all okRat = decide (∀ t, t < l.length → okRat (l.getD t ⟨false, [], []⟩) = true) := by
    rw [Bool.eq_iff_iff, decide_eq_true_eq, List.all_eq_true]
    exact ⟨fun h t ht => h _ (getD_mem _ ht), fun h x hx => by obtain ⟨i, hi, rfl⟩ := List.getElem_of_mem hx; have := h i hi; simpa only [List.getD, List.getElem?_eq_getElem hi, Option.getD_some] using this⟩
  refine Den.pureI Try.func57 rfl 1 [.tmp 2] (by kernel_rfl) rfl rfl (by simp only [initE_nil, initE_cons, Nat.reduceAdd]; exact rfl) ?_
  repeat' first | (with_reducible first | refine nx' ?_ | refine n0 ?_ | refine rD ?_ | refine n1 ?_ | refine nilB_i fun b hb => ?_ | refine nP ?_ ?_ | refine nS fun K hK => ?_ | (refine n2 ?_ ?_ <;> intro h <;> first | subst (h : _ = true) | subst (h : _ = false) | skip) | refine And.intro ?_ ?_ | refine nK ‹Imp _ _› ?_) | exact nl | fail
  · congr 3
    rw [key, okVec]
    by_cases hh : ∀ t, t < l.length → okRat (l.getD t ⟨false, [], []⟩) = true
    · rw [if_pos (by simpa using hh)]; symm; rw [show ((0 : Int) == 0) = true from rfl, decide_eq_true_eq]; exact ⟨by omega, by omega, hh⟩
    · rw [if_neg (by simpa using hh)]; symm; rw [show ((1 : Int) == 0) = false from rfl, decide_eq_false_iff_not]; exact fun h => hh h.2.2
  · congr 3; rw [okVec, eq_comm, decide_eq_false_iff_not]; omega
  · congr 3; rw [okVec, eq_comm, decide_eq_false_iff_not]; omega
instance (a b : Int) (x : List Rt) (g : Bool) (u v : List Int) : Con CC 51 [.d (.agg [.i a, .i b, .sl (x.map encR), .b g, encD u, encD v])] (bRc ⟨a, b, x, ⟨g, u, v⟩⟩) (.d (.b (okRc ⟨a, b, x, ⟨g, u, v⟩⟩))) := by
  constructor; intro ⟨hb, hb1, hb2⟩
  simp only at hb hb1 hb2
  refine Den.pureI Try.func51 rfl 1 [.tmp 2] (by kernel_rfl) rfl rfl (by simp only [initE_nil, initE_cons, Nat.reduceAdd]; exact rfl) ?_
  repeat' first | (with_reducible first | refine nx' ?_ | refine n0 ?_ | refine rD ?_ | refine n1 ?_ | refine nilB_i fun b hb => ?_ | refine nP ?_ ?_ | refine nS fun K hK => ?_ | (refine n2 ?_ ?_ <;> intro h <;> first | subst (h : _ = true) | subst (h : _ = false) | skip) | refine And.intro ?_ ?_ | refine nK ‹Imp _ _› ?_) | exact nl | fail
  all_goals (congr 3; simp [okRc, *]; try omega)
theorem szL_le {n : Nat} (h : 0 ≤ szL 1048576 n) : n ≤ 1048576 := by
  unfold szL at h; split at h <;> omega
theorem bV_of {l : List Rt} (h : szV l ≤ 1048576) : bV l := by
  unfold szV at h
  refine ⟨by omega, fun r hr => ?_⟩
  have := sumOf_mem (f := szR) hr
  rw [show szR r = r.num.length + r.den.length from rfl] at this
  exact ⟨by omega, by omega⟩
theorem bRc_of {r : Rc} (h : 0 ≤ szL 1048576 (szRc r)) : bRc r := by
  have := szL_le h
  unfold szRc szR at this
  exact ⟨bV_of (by omega), by omega, by omega⟩
end Go.PL
