/- A plain machine, sound for the given model, and contracts of functions over it, part 45: XG2. Nothing is assumed. -/
import Derived.Test.YtldgmfplnlnhcaaGreatG37
import Derived.Test.YtldgmfplnlnhcaaGreatXG1
import Derived.Test.YtldgmfplnlnhcaaGreatXJ6
import Derived.Test.YtldgmfplnlnhcaaGreatED
set_option linter.unusedSimpArgs false
set_option linter.unusedVariables false
set_option linter.unusedSectionVars false
/- XG2 -/
namespace Go.PL
open Go Go.Proofs
set_option maxRecDepth 10000
set_option maxHeartbeats 4000000
set_option linter.unusedSimpArgs false
set_option linter.unusedVariables false
theorem NPs.gp {x : List Rat} {l : List Nd} (h : NPs x l) {m : Nat} (hm : m ≤ 4) : GPs m x l := ⟨hm, h.2.2.1, h.1, h.2.2.2.2.1, h.2.2.2.2.2⟩
theorem bV_rt {x : List Rat} (h : x.length ≤ 4) (hl : LnV 40 x) : bV (x.map rtR) := by
  refine ⟨by simp; omega, fun r hr => ?_⟩
  obtain ⟨q, hq, rfl⟩ := List.mem_map.1 hr
  exact ⟨Nat.le_trans (hl q hq).nu (by omega), Nat.le_trans (hl q hq).de (by omega)⟩
theorem pointCode_c {l : List Nd} {x : List Rat} (hl : okE l = true) (hx : okVec (x.map rtR) = true) (hL : LnV 40 x) (hd : dimN l ≤ x.length) : CC 82 [.d (.agg [.sl (l.map encNd)]), vV x] [] (.d (.i 0)) [] := by
  have h4 : x.length ≤ 4 := by have := (okVec_parts hx).1; simpa using this
  have hb := bV_rt h4 hL
  have e0 : longI 4096 ([x.map rtR].map fun y => (y.length : Int)) = 0 := longI_none fun t ht => by
    simp only [List.map_cons, List.map_nil, List.length_cons, List.length_nil] at ht
    obtain rfl : t = 0 := by omega
    simp; omega
  have hbs : bVs [x.map rtR] := ⟨by simp, by simpa using hb⟩
  have hls : CC 125 [.d (.sl [.sl (x.map encX)])] [] (.d (.i 0)) [] := by
    have := Con.ok (C := CC) (n := 125) (vs := [.d (.sl ([x.map rtR].map encV))]) hbs
    rw [e0] at this
    simpa only [List.map_cons, List.map_nil, encV_eq, enc_rtR] using this
  have hvc : CC 115 [vV x] [] (.d (.b true)) [] := by
    have := Con.ok (C := CC) (n := 115) (vs := [.d (.sl ((x.map rtR).map encR))]) hb
    rw [hx, enc_rtR] at this
    exact this
  have hbl := okE_len hl
  have hec : CC 126 [.d (.agg [.sl (l.map encNd)])] [] (.d (.i 0)) [] := by
    have := Con.ok (C := CC) (n := 126) (vs := [.d (.agg [.sl (l.map encNd)])]) (by first | exact ⟨by omega⟩ | omega | exact ⟨by omega, by omega⟩)
    simpa [hl] using this
  have hf3 : CC 45 [.d (.sl [.i 0, .i 0, .i 0])] [] (.d (.i 0)) [] := Con.ok (C := CC) (n := 45) (vs := [.d (.sl ([0, 0, 0].map .i))]) (by simp)
  have hf2 : CC 45 [.d (.sl [.i 0, .i 0])] [] (.d (.i 0)) [] := Con.ok (C := CC) (n := 45) (vs := [.d (.sl ([0, 0].map .i))]) (by simp)
  have h4' : x.length ≤ 1000 := by omega
  have hdd : decide (dimN l ≤ (x.length : Int)) = true := decide_eq_true hd
  refine Den.pureI Tryz.func82 rfl 2 [.tmp 4] (by kernel_rfl) rfl rfl (by simp only [initE_nil, initE_cons, Nat.reduceAdd]; exact rfl) ?_
  repeat' first | (with_reducible first | refine nx' ?_ (by simp -implicitDefEqProofs (disch := omega) only [go_sem, hdd]; exact rfl) | refine n0 ?_ | refine Wp.drawR (by decide +kernel) ?_ | refine Wp.drawSR [1, 2, 4, 6, 7, 8, 9, 10] [false, true, true, false, true, false, true, true, true, true, true] (.op 1 [3,5] (.op 2 [3,5] (.op 4 [5] (.op 6 [] (.op 7 [] (.op 8 [] (.op 9 [] (.op 10 [] .done)))))))) (by decide +kernel) ?_ | refine n1 ?_ | refine nilB_i fun b hb => ?_ | refine nPc (hls) ?_ | refine nPc (hvc) ?_ | refine nPc (hec) ?_ | refine nPc (hf3) ?_ | refine nPc (hf2) ?_ | refine nP ?_ ?_ | refine nS fun K hK => ?_ | (refine n2 ?_ ?_ <;> intro h <;> first | subst (h : _ = true) | subst (h : _ = false) | (simp only [FX, LX, hdd] at h) | skip) | refine And.intro ?_ ?_ | refine nK ‹Imp _ _› ?_) | exact nl | fail
def gradI (m : Nat) (x : List Rat) (l : List Nd) : Except Int (List Rat) := match iEval fitX m x l [] with
  | .ok R => .ok (lastJ R).2
  | .error e => .error e
theorem gradI_c {x : List Rat} {l : List Nd} (h : NPs x l) (hl : okE l = true) (hx : okVec (x.map rtR) = true) (hd : dimN l ≤ x.length) : CC 54 [.d (.agg [.sl (l.map encNd)]), vV x] [] (grV (gradI x.length x l)) [] := by
  have hp := pointCode_c hl hx h.1 hd
  have hj := jetAt_c (h.gp (m := x.length) h.2.2.1) h.2.2.2.1
  unfold gradI
  cases he : iEval fitX x.length x l [] with
  | error e =>
    have hn := iEval_err he
    rw [he] at hj
    unfold jatV at hj
    simp only at hj
    show CC _ _ _ (.tup [.d (.sl []), .d (.i e)]) _
    refine Den.pureI Tryz.func54 rfl 2 [.tmp 4, .tmp 5] (by kernel_rfl) rfl rfl (by simp only [initE_nil, initE_cons, Nat.reduceAdd]; exact rfl) ?_
    repeat' first | (with_reducible first | refine nx' ?_ (by simp -implicitDefEqProofs (disch := omega) only [go_sem, hn]; exact rfl) | refine n0 ?_ | refine rD ?_ | refine n1 ?_ | refine nilB_i fun b hb => ?_ | refine nPc (hp) ?_ | refine nPc (hj) ?_ | refine nP ?_ ?_ | refine nS fun K hK => ?_ | (refine n2 ?_ ?_ <;> intro h <;> first | subst (h : _ = true) | subst (h : _ = false) | (simp only [FX, LX, hn] at h) | skip) | refine And.intro ?_ ?_ | refine nK ‹Imp _ _› ?_) | exact nl | fail
  | ok R =>
    have hR := iEval_inv (by simp) he
    have hk := lastJ_ok (by rw [hR.1]; simp; exact h.2.2.2.1) hR.2
    rw [he] at hj
    unfold jatV at hj
    simp only at hj
    have k1 : (lastJ R).2.length ≤ 1000 := by rw [hk.2.2]; have := h.2.2.1; omega
    have k2 := hk.2.1.mono (show 40 ≤ 2000 by omega)
    show CC _ _ _ (.tup [vV (lastJ R).2, .d (.i 0)]) _
    refine Den.pureI Tryz.func54 rfl 2 [.tmp 4, .tmp 5] (by kernel_rfl) rfl rfl (by simp only [initE_nil, initE_cons, Nat.reduceAdd]; exact rfl) ?_
    repeat' first | (with_reducible first | refine nx' ?_ | refine n0 ?_ | refine rD ?_ | refine n1 ?_ | refine nilB_i fun b hb => ?_ | refine nPc (hp) ?_ | refine nPc (hj) ?_ | refine nP ?_ ?_ | refine nS fun K hK => ?_ | (refine n2 ?_ ?_ <;> intro h <;> first | subst (h : _ = true) | subst (h : _ = false) | skip) | refine And.intro ?_ ?_ | refine nK ‹Imp _ _› ?_) | exact nl | fail
/-- Both ways to a gradient. -/
theorem gS_ok {x : List Rat} {l : List Nd} {n : Nat} {R : List (Rat × List Rat)} (hs : ∀ i, i < n → sEval fitX x (unitV n i) l [] = .ok (R.map (ax i))) : ∀ i, i ≤ n → gS x l n i = .ok (alongX i fun k => (lastS (R.map (ax k))).2)
  | 0, _ => rfl
  | i + 1, hi => by
    rw [gS, gS_ok hs i (by omega)]
    simp only [hs i (by omega)]
    rw [range_snoc]
theorem gS_none {x : List Rat} {l : List Nd} {n i : Nat} {e : Int} (hs : sEval fitX x (unitV n i) l [] = .error e) (hi : i < n) : ∃ e', gS x l n n = .error e' := by
  have h1 : ∃ e', gS x l n (i + 1) = .error e' := by
    rw [gS]
    cases gS x l n i with
    | error e => exact ⟨e, rfl⟩
    | ok g => simp only [hs]; exact ⟨e, rfl⟩
  obtain ⟨e', h1⟩ := h1
  have := gS_err (k := n - (i + 1)) h1
  rw [show i + 1 + (n - (i + 1)) = n by omega] at this
  exact ⟨e', this⟩
theorem grad_ok {x : List Rat} {l : List Nd} (h : NPs x l) {g : List Rat} (hg : gradI x.length x l = .ok g) : gS x l x.length x.length = .ok g := by
  have hv : ∀ n ∈ l, n.op = 2 → n.n.toNat < x.length := fun n hn ho => by
    obtain ⟨i, hi, rfl⟩ := List.getElem_of_mem hn
    obtain ⟨k1, k2, k3, k4, k5, k6⟩ := h.2.2.2.2.2 i hi
    simp only [List.getD, List.getElem?_eq_getElem hi, Option.getD_some] at k4
    have := k4 ho
    omega
  unfold gradI at hg
  cases he : iEval fitX x.length x l [] with
  | error e => rw [he] at hg; cases hg
  | ok R =>
    rw [he] at hg
    cases hg
    have hs := eval_ok fitX hv he
    simp only [List.map_nil] at hs
    rw [gS_ok hs _ (Nat.le_refl _)]
    have hR := iEval_inv (by simp) he
    have hk := lastJ_ok (by rw [hR.1]; simp; exact h.2.2.2.1) hR.2
    congr 1
    have e : ∀ k, (lastS (R.map (ax k))).2 = (lastJ R).2.getD k 0 := fun k => by
      unfold lastS lastJ
      rw [List.length_map, ax_getD]; rfl
    rw [← alongX_get hk.2.2]
    exact List.map_congr_left fun k _ => e k
theorem grad_err {x : List Rat} {l : List Nd} (h : NPs x l) {e : Int} (hg : gradI x.length x l = .error e) : ∃ e', gS x l x.length x.length = .error e' := by
  have hv : ∀ n ∈ l, n.op = 2 → n.n.toNat < x.length := fun n hn ho => by
    obtain ⟨i, hi, rfl⟩ := List.getElem_of_mem hn
    obtain ⟨k1, k2, k3, k4, k5, k6⟩ := h.2.2.2.2.2 i hi
    simp only [List.getD, List.getElem?_eq_getElem hi, Option.getD_some] at k4
    have := k4 ho
    omega
  unfold gradI at hg
  cases he : iEval fitX x.length x l [] with
  | error e2 =>
    obtain ⟨i, hi, e', hs⟩ := eval_err fitX h.2.1 hv he
    exact gS_none hs hi
  | ok R => rw [he] at hg; cases hg
end Go.PL
