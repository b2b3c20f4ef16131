/- A plain machine, sound for the given model, and contracts of functions over it, part 46: XG3. Nothing is assumed. -/
import Derived.Test.YtldgmfplnlnhcaaGreatG37
import Derived.Test.YtldgmfplnlnhcaaGreatXG2
set_option linter.unusedSimpArgs false
set_option linter.unusedVariables false
set_option linter.unusedSectionVars false
/- XG3 -/
namespace Go.PL
open Go Go.Proofs
set_option maxRecDepth 10000
set_option maxHeartbeats 4000000
set_option linter.unusedSimpArgs false
set_option linter.unusedVariables false
theorem dimT_ge {l : List Nd} {i k : Nat} (hi : i < k) (h2 : (l.getD i nd0).op = 2) : (l.getD i nd0).n + 1 ≤ dimT l k := by
  induction k with
  | zero => omega
  | succ k ih =>
    unfold dimT
    by_cases e : i = k
    · subst e
      rw [if_pos h2]; omega
    · have := ih (by omega)
      split <;> omega
theorem NPs_of {l : List Nd} {x : List Rat} (hl : okE l = true) (hx : okVec (x.map rtR) = true) (hL : LnV 40 x) (hd : dimN l ≤ x.length) : NPs x l := by
  have h4 : x.length ≤ 4 := by have := (okVec_parts hx).1; simpa using this
  have h1 : 1 ≤ x.length := by
    unfold okVec at hx
    rw [decide_eq_true_eq] at hx
    simpa using hx.1
  have hb := okE_len hl
  refine ⟨hL, h1, h4, by omega, by omega, fun i hi => ?_⟩
  have hp := okE_node hl hi
  obtain ⟨ka, kb⟩ := plOk_kids hp
  have hv := okE_var hl hi
  have hg : (l.getD i nd0).op = 2 → (l.getD i nd0).n + 1 ≤ dimT l l.length := fun h2 => dimT_ge hi h2
  unfold dimN at hd
  generalize l.getD i nd0 = nd at *
  unfold plOk at hp
  rw [Bool.and_eq_true, Bool.and_eq_true, Bool.and_eq_true, decide_eq_true_eq] at hp
  obtain ⟨⟨⟨p1, p2⟩, p3⟩, p4⟩ := hp
  refine ⟨p1.1, p1.2, fun h => ?_, fun h => ?_, fun h => ?_, fun h => ?_⟩
  · unfold numOk at p2
    rw [if_pos h, decide_eq_true_eq] at p2
    exact p2
  · have := hv h; have := hg h; omega
  · unfold numOk at p2
    rw [if_neg (by omega), if_neg (by omega), if_pos h, decide_eq_true_eq] at p2
    exact p2
  · have k0 : 0 < kidsN nd.op := by unfold kidsN; split <;> (try split) <;> omega
    obtain ⟨a0, a1⟩ := ka k0
    by_cases k1 : 1 < kidsN nd.op
    · obtain ⟨b0, b1⟩ := kb k1
      omega
    · rw [show decide (1 < kidsN nd.op) = false from decide_eq_false k1] at p4
      unfold chOk at p4
      rw [if_neg (by simp), decide_eq_true_eq] at p4
      omega
/-- Is what is claimed so? -/
def claimB (f : List Nd) (l u : List Rat) (e : Rat) (it st ri : Int) (x : List Rat) : Bool :=
  match gradI x.length x f with
  | .error _ => false
  | .ok g => if st = 1 then decide (sgnX (resR l u x g - e * e) ≤ 0) else !decide (sgnX (resR l u x g - e * e) ≤ 0) && decide (it ≤ ri)
theorem gradI_Ln {x : List Rat} {l : List Nd} (h : NPs x l) {g : List Rat} (hg : gradI x.length x l = .ok g) : LnV 40 g ∧ g.length = x.length := by
  unfold gradI at hg
  cases he : iEval fitX x.length x l [] with
  | error e => rw [he] at hg; cases hg
  | ok R =>
    rw [he] at hg
    cases hg
    have hR := iEval_inv (by simp) he
    have hk := lastJ_ok (by rw [hR.1]; simp; exact h.2.2.2.1) hR.2
    exact ⟨hk.2.1, hk.2.2⟩
theorem gradI_err {x : List Rat} {l : List Nd} {e : Int} (hg : gradI x.length x l = .error e) : (e != 0) = true := by
  unfold gradI at hg
  cases he : iEval fitX x.length x l [] with
  | error e2 => rw [he] at hg; cases hg; exact iEval_err he
  | ok R => rw [he] at hg; cases hg
theorem gS_errN {x : List Rat} {l : List Nd} {n : Nat} : ∀ {i : Nat} {e : Int}, gS x l n i = .error e → (e != 0) = true
  | 0, e, h => by cases h
  | i + 1, e, h => by
    rw [gS] at h
    cases hg : gS x l n i with
    | error e2 => rw [hg] at h; cases h; exact gS_errN hg
    | ok g =>
      rw [hg] at h
      simp only at h
      cases hs : sEval fitX x (unitV n i) l [] with
      | error e2 => rw [hs] at h; cases h; exact sEval_err hs
      | ok R => rw [hs] at h; cases h
theorem addS_big (x y : Rat) (hx : Ln 1000 x) (hy : Ln 600 y) : CC 106 [xV x, xV y] [] (.d (encX (x + y))) [] := by
  obtain ⟨a1, a2, a3⟩ := hx.q
  obtain ⟨b1, b2, b3⟩ := hy.q
  show CC 106 [qV (ofR x), qV (ofR y)] [] (.d (encQ (ofR (x + y)))) []
  rw [← ofR_add]
  generalize ofR x = p at *
  generalize ofR y = q at *
  obtain ⟨b, m, n⟩ := p
  obtain ⟨c, u, v⟩ := q
  simp only at a1 a2 a3 b1 b2 b3
  have h1 := digs_mul_le m v
  have h2 := digs_mul_le u n
  have h3 := digs_mul_le n v
  have h4 := Nat.mul_pos a3 b3
  have h5 := digs_add_le (L := 1600) (m := m * v) (n := u * n) (by omega) (by omega)
  have h6 := digs_len_mono (Nat.sub_le (m * v) (u * n))
  have h7 := digs_len_mono (Nat.sub_le (u * n) (m * v))
  refine Den.pureI Tryz.func106 rfl 2 [.cell 4 42] (by kernel_rfl) rfl rfl (by simp only [initE_nil, initE_cons, Nat.reduceAdd]; exact rfl) ?_
  repeat' first | (with_reducible first | refine nx' ?_ | refine n0 ?_ | refine Wp.drawR (by decide +kernel) ?_ | refine Wp.drawSR [4, 6, 7] [false, false, false, false, true, false, true, true] (.op 4 [0,1,5] (.op 6 [] (.op 7 [] .done))) (by decide +kernel) ?_ | refine Wp.drawSR [4, 6, 7] [false, false, false, false, true, false, true, true] (.op 4 [0,1,5] (.op 6 [] (.op 7 [] .done))) (by decide +kernel) ?_ | refine Wp.drawSR [4, 6, 7] [false, false, false, false, true, false, true, true] (.op 4 [0,1,5] (.op 6 [] (.op 7 [] .done))) (by decide +kernel) ?_ | refine n1 ?_ | refine nilB_i fun b hb => ?_ | refine nP ?_ ?_ | refine nS fun K hK => ?_ | (refine n2 ?_ ?_ <;> intro h <;> first | subst (h : _ = true) | subst (h : _ = false) | skip) | refine And.intro ?_ ?_ | refine nK ‹Imp _ _› ?_) | exact nl | fail
  · rw [addQ_1 (by assumption)]
  · exact cmpN_nonneg.1 (by assumption)
  · rw [addQ_2 (by assumption) (cmpN_nonneg.1 (by assumption))]
  · exact Nat.le_of_lt (cmpN_neg.1 (by assumption))
  · rw [addQ_3 (by assumption) (cmpN_neg.1 (by assumption))]
theorem cmpS_big (x y : Rat) (hx : Ln 1000 x) (hy : Ln 600 y) : CC 37 [xV x, xV y] [] (.d (.i (sgnX (x - y)))) [] := by
  have ha := addS_big x (-y) hx hy.neg
  rw [← Rat.sub_eq_add_neg] at ha
  have hy8 := hy.mono (show 600 ≤ 800 by omega)
  have hs : CC 71 [xV x, xV y] [] (.d (encX (x - y))) [] := by
    refine Den.pureI Tryz.func71 rfl 2 [.cell 4 42] (by kernel_rfl) rfl rfl (by simp only [initE_nil, initE_cons, Nat.reduceAdd]; exact rfl) ?_
    repeat' first | (with_reducible first | refine nx' ?_ | refine n0 ?_ | refine Wp.drawR (by decide +kernel) ?_ | refine Wp.drawSR [2, 3, 4] [false, false, true, true, true] (.op 2 [0] (.op 3 [] (.op 4 [] .done))) (by decide +kernel) ?_ | refine n1 ?_ | refine nilB_i fun b hb => ?_ | refine nPc (ha) ?_ | refine nP ?_ ?_ | refine nS fun K hK => ?_ | (refine n2 ?_ ?_ <;> intro h <;> first | subst (h : _ = true) | subst (h : _ = false) | skip) | refine And.intro ?_ ?_ | refine nK ‹Imp _ _› ?_) | exact nl | fail
  have hl : Ln 2000 (x - y) := by
    rw [Rat.sub_eq_add_neg]
    exact (hx.add hy.neg).mono (by omega)
  have hg : CC 65 [xV (x - y)] [] (.d (.i (sgnX (x - y)))) [] := one1 (n := 65) (hl.big (by omega)) rfl
  refine Den.pureI Tryz.func37 rfl 2 [.tmp 4] (by kernel_rfl) rfl rfl (by simp only [initE_nil, initE_cons, Nat.reduceAdd]; exact rfl) ?_
  repeat' first | (with_reducible first | refine nx' ?_ | refine n0 ?_ | refine rD ?_ | refine n1 ?_ | refine nilB_i fun b hb => ?_ | refine nPc (hs) ?_ | refine nPc (hg) ?_ | refine nP ?_ ?_ | refine nS fun K hK => ?_ | (refine n2 ?_ ?_ <;> intro h <;> first | subst (h : _ = true) | subst (h : _ = false) | skip) | refine And.intro ?_ ?_ | refine nK ‹Imp _ _› ?_) | exact nl | fail
theorem cmpI_big (x y : Rat) (hx : Ln 1000 x) (hy : Ln 600 y) : CC 51 [xV x, xV y] [] (.d (.i (cmpX x y))) [] :=
  two (n := 51) ⟨(hx.mono (by omega)).q, (hy.mono (by omega)).q⟩ rfl
theorem resR_Ln {l u x g : List Rat} (hb : boxV x.length l u) (hg : g.length = x.length) (hx : LnV 40 x) (hgl : LnV 40 g) : Ln 1000 (resR l u x g) := by
  have h0 := hb.1
  have h1 := subV_Ln hx hgl (by omega)
  have hb1 : boxV (subV x g).length l u := by rw [subV_len]; exact hb
  have h2 := projV_Ln hb1 h1 (by omega)
  have h3 : LnV 122 (subV (projV l u (subV x g)) x) := subV_Ln h2 hx (by rw [projV_len, subV_len]; omega)
  have hd := dotN_len h3 h3 (Nat.le_refl _) _ (Nat.le_refl _)
  have hn : (subV (projV l u (subV x g)) x).length = x.length := by rw [subV_len, projV_len, subV_len]
  refine hd.mono ?_
  have := Nat.mul_le_mul_right (122 + 122 + 1) (show (subV (projV l u (subV x g)) x).length ≤ 4 by omega)
  omega
end Go.PL
