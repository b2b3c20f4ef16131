/- A plain machine, sound for the given model, and contracts of functions over it, part 40: XG1. Nothing is assumed. -/
import Derived.Test.YtldgmfplnlnhcaaGreatG27
import Derived.Test.YtldgmfplnlnhcaaGreatG32
import Derived.Test.YtldgmfplnlnhcaaGreatXS2
import Derived.Test.YtldgmfplnlnhcaaGreatPBb
set_option linter.unusedSimpArgs false
set_option linter.unusedVariables false
set_option linter.unusedSectionVars false
/- XG1 -/
namespace Go.PL
open Go Go.Proofs
set_option maxRecDepth 10000
set_option maxHeartbeats 4000000
set_option linter.unusedSimpArgs false
set_option linter.unusedVariables false
def rtR (x : Rat) : Rt := ⟨sgX x, nuX x, deX x⟩
theorem enc_rtR (l : List Rat) : (l.map rtR).map encR = l.map encX := by rw [List.map_map]; rfl
theorem okRat_R {r : Rt} (h : okRat r = true) : ∃ x : Rat, r = rtR x ∧ Ln 40 x := by
  obtain ⟨m, n, e, h1, h2, h3, h4, h5⟩ := okRat_form h
  have hc : ofR (toR ⟨r.neg, m, n⟩) = ⟨r.neg, m, n⟩ := ofR_toR ⟨h2, h1, h3⟩
  refine ⟨toR ⟨r.neg, m, n⟩, ?_, ?_⟩
  · unfold rtR sgX nuX deX
    rw [hc]; exact e
  · exact .of (by rw [hc]; exact ⟨h4, h5, h2⟩)
theorem okVec_R {l : List Rt} (h : okVec l = true) : ∃ xs : List Rat, l = xs.map rtR ∧ LnV 40 xs := by
  obtain ⟨-, h2⟩ := okVec_parts h
  clear h
  induction l with
  | nil => exact ⟨[], rfl, by intro x hx; cases hx⟩
  | cons r l ih =>
    obtain ⟨x, hx, hl⟩ := okRat_R (h2 r (by simp))
    obtain ⟨xs, hxs, hls⟩ := ih fun q hq => h2 q (by simp [hq])
    exact ⟨x :: xs, by rw [List.map_cons, ← hx, ← hxs], by
      intro y hy
      rcases List.mem_cons.1 hy with q | q
      · rw [q]; exact hl
      · exact hls y q⟩
theorem zerosS_new (n : Nat) (hn : n ≤ 1000) : CC 68 [.d (.i n)] [] (.msl 0 0 n) [.arr 3 ((alongX n fun _ => 0).map encX) false] := by
  refine Den.newG (vs := [.msl 0 0 n]) Tryz.func68 rfl 1 0 [.tmp 2] (by kernel_rfl) rfl rfl (by simp only [initE_nil, initE_cons, Nat.reduceAdd]; exact rfl) rfl rfl (by simp) rfl rfl ?_
  repeat' first | (with_reducible first | refine nx' ?_ | refine n0 ?_ | refine rD ?_ | refine n1 ?_ | refine nilB_i fun b hb => ?_ | refine nP ?_ ?_ | refine nS fun K hK => ?_ | (refine n2 ?_ ?_ <;> intro h <;> first | subst (h : _ = true) | subst (h : _ = false) | skip) | refine And.intro ?_ ?_ | refine nK ‹Imp _ _› ?_) | exact nl | fail
  refine Wp.loopR (fun i : Nat => ⟨[(0, .d (.i n)), (3, .msl 0 0 i), (4, .d (.i i))], [.arr 3 ((alongX i fun _ => 0).map encX) false]⟩) (fun i => n - i) (fun i => i ≤ n) 0 Weak.lo (by simp) ?_
  rintro i hi K hK
  have e := range_snoc (n := i) (p := fun _ => 0)
  repeat' first | (with_reducible first | refine nx' ?_ (by simp -implicitDefEqProofs (disch := omega) only [go_sem, alongX_len, e]; exact rfl) | refine n0 ?_ | refine rD ?_ | refine n1 ?_ | refine nilB_i fun b hb => ?_ | refine nP ?_ ?_ | refine nS fun K hK => ?_ | (refine n2 ?_ ?_ <;> intro h <;> first | subst (h : _ = true) | subst (h : _ = false) | (simp only [FX, LX, alongX_len, e] at h) | skip) | refine And.intro ?_ ?_ | refine nK ‹Imp _ _› ?_) | exact nl | fail
  · exact ⟨i + 1, by omega, by omega, Weak.cu⟩
  · obtain rfl : i = n := by omega
    exact finG_of [(2, .msl 0 0 i)] [] Weak.lo
theorem set_unit {m k : Nat} : (alongX m fun _ => (0 : Rat)).set k 1 = unitV m k := by
  refine List.ext_getElem (by simp [alongX, unitV]) fun i h1 h2 => ?_
  simp only [alongX, unitV, List.getElem_set, List.getElem_map, List.getElem_range]
  by_cases h : k = i
  · simp [h]
  · simp [h, Ne.symm h]
instance (n k : Nat) : Con CC 109 [.d (.i n), .d (.i k)] (n ≤ 1000 ∧ k < n) (vV (unitV n k)) := by
  constructor; intro ⟨hn, hk⟩
  have hz := zerosS_new n hn
  refine Den.pureI Tryz.func109 rfl 2 [.tmp 4] (by kernel_rfl) rfl rfl (by simp only [initE_nil, initE_cons, Nat.reduceAdd]; exact rfl) ?_
  repeat' first | (with_reducible first | refine nx' ?_ (by simp -implicitDefEqProofs (disch := omega) only [go_sem, alongX_len, set_unit]; exact rfl) | refine n0 ?_ | refine rD ?_ | refine n1 ?_ | refine nilB_i fun b hb => ?_ | refine nPn (hz) ?_ | refine nP ?_ ?_ | refine nS fun K hK => ?_ | (refine n2 ?_ ?_ <;> intro h <;> first | subst (h : _ = true) | subst (h : _ = false) | (simp only [FX, LX, alongX_len, set_unit] at h) | skip) | refine And.intro ?_ ?_ | refine nK ‹Imp _ _› ?_) | exact nl | fail
  rw [List.take_of_length_le (by simp [unitV])]
/-- The slopes along the first axes, each by itself. -/
def gS (x : List Rat) (l : List Nd) (n : Nat) : Nat → Except Int (List Rat)
  | 0 => .ok []
  | i + 1 => match gS x l n i with
    | .error e => .error e
    | .ok g => match sEval fitX x (unitV n i) l [] with
      | .error e => .error e
      | .ok R => .ok (g ++ [(lastS R).2])
def grV : Except Int (List Rat) → V
  | .ok g => .tup [vV g, .d (.i 0)]
  | .error e => .tup [.d (.sl []), .d (.i e)]
theorem unit_len {n k : Nat} : (unitV n k).length = n := by simp [unitV]
theorem zero_get {n i : Nat} : (alongX n fun _ => (0 : Rat)).getD i 0 = 0 := by
  simp only [alongX, List.getD, List.getElem?_map]
  cases (List.range n)[i]? <;> rfl
theorem unit_Ln {n k : Nat} : LnV 40 (unitV n k) := alongX_Ln fun i _ => by
  split
  · exact Ln.one.mono (by omega)
  · exact Ln.zero.mono (by omega)
/-- What nodes have to be, for a point. -/
def NPs (x : List Rat) (l : List Nd) : Prop := LnV 40 x ∧ 1 ≤ x.length ∧ x.length ≤ 4 ∧ 0 < l.length ∧ l.length ≤ 1000 ∧ ∀ i, i < l.length →
  1 ≤ (l.getD i nd0).op ∧ (l.getD i nd0).op ≤ 8 ∧ ((l.getD i nd0).op = 1 → 0 ≤ (l.getD i nd0).n ∧ (l.getD i nd0).n ≤ 999999999) ∧ ((l.getD i nd0).op = 2 → 0 ≤ (l.getD i nd0).n ∧ (l.getD i nd0).n < x.length) ∧
  ((l.getD i nd0).op = 8 → 0 ≤ (l.getD i nd0).n ∧ (l.getD i nd0).n ≤ 8) ∧ (3 ≤ (l.getD i nd0).op → 0 ≤ (l.getD i nd0).a ∧ (l.getD i nd0).a < i ∧ 0 ≤ (l.getD i nd0).b ∧ (l.getD i nd0).b < i)
theorem NPs.sp {x : List Rat} {l : List Nd} (h : NPs x l) {v : List Rat} (hv : LnV 40 v) (hl : v.length = x.length) : SPs x v (alongX x.length fun _ => 0) l :=
  ⟨h.1, hv, hl, alongX_len, fun i => zero_get, h.2.2.2.1, h.2.2.2.2.1, h.2.2.2.2.2⟩
theorem sEval_err {x v : List Rat} : ∀ {l : List Nd} {out : List (Rat × Rat)} {e : Int}, sEval fitX x v l out = .error e → (e != 0) = true
  | [], out, e, h => by cases h
  | n :: r, out, e, h => by
    unfold sEval at h
    cases hc : sStep fitX x v out n with
    | error e2 =>
      rw [hc] at h
      cases h
      unfold sStep at hc
      cases hn : sNode x v out n with
      | error e3 =>
        rw [hn] at hc
        cases hc
        unfold sNode at hn
        simp only at hn
        repeat' split at hn
        all_goals first
          | (cases hn; done)
          | (cases hn; rfl)
      | ok j =>
        rw [hn] at hc
        simp only at hc
        split at hc
        · cases hc
        · cases hc; rfl
    | ok c =>
      rw [hc] at h
      exact sEval_err h
theorem sEval_inv {x v : List Rat} : ∀ {l : List Nd} {out R : List (Rat × Rat)}, (∀ j ∈ out, okS j) → sEval fitX x v l out = .ok R → R.length = out.length + l.length ∧ ∀ j ∈ R, okS j
  | [], out, R, ho, h => by cases h; exact ⟨rfl, ho⟩
  | n :: r, out, R, ho, h => by
    unfold sEval at h
    cases hc : sStep fitX x v out n with
    | error e => rw [hc] at h; cases h
    | ok c =>
      rw [hc] at h
      have hf : (fitX c.1 && fitX c.2) = true := by
        unfold sStep at hc
        cases hn : sNode x v out n with
        | error e3 => rw [hn] at hc; cases hc
        | ok j =>
          rw [hn] at hc
          simp only at hc
          split at hc
          · rename_i q; cases hc; exact q
          · cases hc
      have := sEval_inv (okS_app ho hf) h
      exact ⟨by rw [this.1]; simp; omega, this.2⟩
theorem lastS_ok {R : List (Rat × Rat)} (h : 0 < R.length) (ho : ∀ j ∈ R, okS j) : okS (lastS R) := ho _ (getD_mem (0, 0) (by omega))
theorem gS_err {x : List Rat} {l : List Nd} {n i k : Nat} {e : Int} (h : gS x l n i = .error e) : gS x l n (i + k) = .error e := by
  induction k with
  | zero => exact h
  | succ k ih => show gS x l n (i + k + 1) = _; rw [gS, ih]
theorem gradS_c {x : List Rat} {l : List Nd} (h : NPs x l) : CC 73 [.d (.agg [.sl (l.map encNd)]), vV x] [] (grV (gS x l x.length x.length)) [] := by
  have h4 := h.2.2.1
  have hev := fun i => eval_c (h.sp (unit_Ln (n := x.length) (k := i)) unit_len)
  refine Den.pureI Tryz.func73 rfl 2 [.tmp 4, .tmp 5] (by kernel_rfl) rfl rfl (by simp only [initE_nil, initE_cons, Nat.reduceAdd]; exact rfl) ?_
  repeat' first | (with_reducible first | refine nx' ?_ | refine n0 ?_ | refine Wp.drawR (by decide +kernel) ?_ | refine Wp.drawSR [13, 14, 15] [false, false, false, false, false, false, false, false, false, false, false, false, false, true, true, true] (.op 13 [0,1,2,3,4,5,6,7,8,9,10,11,12] (.op 14 [12] (.op 15 [] .done))) (by decide +kernel) ?_ | refine n1 ?_ | refine nilB_i fun b hb => ?_ | refine nP ?_ ?_ | refine nS fun K hK => ?_ | (refine n2 ?_ ?_ <;> intro h <;> first | subst (h : _ = true) | subst (h : _ = false) | skip) | refine And.intro ?_ ?_ | refine nK ‹Imp _ _› ?_) | exact nl | fail
  refine Wp.loopR (fun o : List Rat => ⟨[(1, vV x), (2, .ref 0 0 0), (6, .msl 1 0 o.length), (7, .d (.i o.length))], [.var [.d (.sl (l.map encNd))] false, .arr 3 (o.map encX) false]⟩) (fun o => x.length - o.length)
    (fun o => o.length ≤ x.length ∧ gS x l x.length o.length = .ok o) [] Weak.lo ⟨by simp, rfl⟩ ?_
  rintro o ⟨hi, hg⟩ K hK
  by_cases hil : o.length < x.length
  · have he := hev o.length
    cases hs : sEval fitX x (unitV x.length o.length) l [] with
    | error e =>
      have hn := sEval_err hs
      rw [hs, evV_err] at he
      have h1 : gS x l x.length (o.length + 1) = .error e := by rw [gS, hg]; simp only [hs]
      have h2 := gS_err (k := x.length - (o.length + 1)) h1
      rw [show o.length + 1 + (x.length - (o.length + 1)) = x.length by omega] at h2
      rw [h2]
      repeat' first | (with_reducible first | refine nx' ?_ (by simp -implicitDefEqProofs (disch := omega) only [go_sem, hn]; exact rfl) | refine n0 ?_ | refine Wp.drawR (by decide +kernel) ?_ | refine Wp.drawSR [13, 14, 15] [false, false, false, false, false, false, false, false, false, false, false, false, false, true, true, true] (.op 13 [0,1,2,3,4,5,6,7,8,9,10,11,12] (.op 14 [12] (.op 15 [] .done))) (by decide +kernel) ?_ | refine n1 ?_ | refine nilB_i fun b hb => ?_ | refine nPc (he) ?_ | refine nP ?_ ?_ | refine nS fun K hK => ?_ | (refine n2 ?_ ?_ <;> intro h <;> first | subst (h : _ = true) | subst (h : _ = false) | (simp only [FX, LX, hn] at h) | skip) | refine And.intro ?_ ?_ | refine nK ‹Imp _ _› ?_) | exact nl | fail
      rfl
    | ok R =>
      have hR := sEval_inv (by simp) hs
      have hk := lastS_ok (by rw [hR.1]; simp; exact h.2.2.2.1) hR.2
      have k1 := Nat.le_trans hk.2.nu (show 40 ≤ 1048576 by omega)
      have k2 := Nat.le_trans hk.2.de (show 40 ≤ 1048576 by omega)
      rw [hs, evV_ok] at he
      have h1 : gS x l x.length (o.length + 1) = .ok (o ++ [(lastS R).2]) := by rw [gS, hg]; simp only [hs]
      repeat' first | (with_reducible first | refine nx' ?_ | refine n0 ?_ | refine Wp.drawR (by decide +kernel) ?_ | refine Wp.drawSR [13, 14, 15] [false, false, false, false, false, false, false, false, false, false, false, false, false, true, true, true] (.op 13 [0,1,2,3,4,5,6,7,8,9,10,11,12] (.op 14 [12] (.op 15 [] .done))) (by decide +kernel) ?_ | refine n1 ?_ | refine nilB_i fun b hb => ?_ | refine nPc (he) ?_ | refine nP ?_ ?_ | refine nS fun K hK => ?_ | (refine n2 ?_ ?_ <;> intro h <;> first | subst (h : _ = true) | subst (h : _ = false) | skip) | refine And.intro ?_ ?_ | refine nK ‹Imp _ _› ?_) | exact nl | fail
      exact ⟨o ++ [(lastS R).2], by simp; omega, ⟨by simp; omega, by rw [List.length_append]; exact h1⟩, Weak.cu⟩
  · repeat' first | (with_reducible first | refine nx' ?_ | refine n0 ?_ | refine Wp.drawR (by decide +kernel) ?_ | refine Wp.drawSR [13, 14, 15] [false, false, false, false, false, false, false, false, false, false, false, false, false, true, true, true] (.op 13 [0,1,2,3,4,5,6,7,8,9,10,11,12] (.op 14 [12] (.op 15 [] .done))) (by decide +kernel) ?_ | refine n1 ?_ | refine nilB_i fun b hb => ?_ | refine nP ?_ ?_ | refine nS fun K hK => ?_ | (refine n2 ?_ ?_ <;> intro h <;> first | subst (h : _ = true) | subst (h : _ = false) | skip) | refine And.intro ?_ ?_ | refine nK ‹Imp _ _› ?_) | exact nl | fail
    rw [show x.length = o.length by omega] at hg ⊢
    rw [hg]
    rfl
end Go.PL
