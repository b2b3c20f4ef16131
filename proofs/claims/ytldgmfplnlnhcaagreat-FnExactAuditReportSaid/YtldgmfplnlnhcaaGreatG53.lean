/- A plain machine, sound for the given model, and contracts of functions over it, part 53: XA3 XA4 XA5. Nothing is assumed. -/
import Derived.Test.YtldgmfplnlnhcaaGreatG52
set_option linter.unusedSimpArgs false
set_option linter.unusedVariables false
set_option linter.unusedSectionVars false
/- XA3 -/
namespace Go.PL
open Go Go.Proofs
set_option maxRecDepth 10000
set_option maxHeartbeats 4000000
set_option linter.unusedSimpArgs false
set_option linter.unusedVariables false
/-- What a report's records and a problem have to be. -/
structure AuP (f : List Nd) (sx l u : List Rat) (e : Rat) (recs : List Rc) : Prop where
  of : okE f = true
  oe : Ln 40 e
  os : LnV 40 sx
  o4 : sx.length ≤ 4
  ob : boxV sx.length l u
  od : dimN f ≤ sx.length
  n7 : recs.length ≤ 7
  at_ : ∀ i, i < recs.length → okRc (recs.getD i rc0) = true ∧ (recs.getD i rc0).x.length = sx.length
def same0 (sx : List Rat) (recs : List Rc) : Bool := decide (recs.length = 0) || decide ((recs.getD 0 rc0).x.map xR = sx)
def allB (f : List Nd) (l u : List Rat) (it ba : Int) (recs : List Rc) : Bool := decide (∀ i, i < recs.length → recB f l u it ba (recs.getD i rc0) = true)
def audV (f : List Nd) (sx l u : List Rat) (it ba : Int) (recs : List Rc) (c : Bool) : Bool := same0 sx recs && allB f l u it ba recs && dropsR recs && c
section
variable {f : List Nd} {sx l u : List Rat} {so : Int} {e : Rat} {it ba st : Int} {recs : List Rc}
theorem AuP.cl (h : AuP f sx l u e recs) {i : Nat} (hi : i < recs.length) : ClP f l u e ((recs.getD i rc0).x.map xR) ∧ ((recs.getD i rc0).x.map xR).length = sx.length ∧ (recs.getD i rc0).x = ((recs.getD i rc0).x.map xR).map rtR ∧ Ln 40 (xR (recs.getD i rc0).f) ∧ (recs.getD i rc0).f = rtR (xR (recs.getD i rc0).f) := by
  obtain ⟨h1, h2⟩ := h.at_ i hi
  obtain ⟨h3, h4⟩ := okRc_x h1
  obtain ⟨h5, h6⟩ := xRs_ok h3
  obtain ⟨h7, h8⟩ := xR_ok h4
  have hl : ((recs.getD i rc0).x.map xR).length = sx.length := by rw [List.length_map, h2]
  exact ⟨⟨h.of, h.oe, by rw [hl]; exact h.ob, by rw [← h5]; exact h3, h6, by rw [hl]; exact h.od⟩, hl, h5, h8, h7⟩
theorem rec_enc (h : AuP f sx l u e recs) {i : Nat} (hi : i < recs.length) : (recs.getD i rc0).x.map encR = ((recs.getD i rc0).x.map xR).map encX ∧ (recs.getD i rc0).f.neg = sgX (xR (recs.getD i rc0).f) ∧ (recs.getD i rc0).f.num = nuX (xR (recs.getD i rc0).f) ∧ (recs.getD i rc0).f.den = deX (xR (recs.getD i rc0).f) := by
  obtain ⟨_, _, h3, _, h5⟩ := h.cl hi
  refine ⟨?_, congrArg Rt.neg h5, congrArg Rt.num h5, congrArg Rt.den h5⟩
  have := congrArg (List.map encR) h3
  rw [enc_rtR] at this
  exact this
theorem audV_all {c : Bool} {i : Nat} (hi : i < recs.length) (h : recB f l u it ba (recs.getD i rc0) = false) : audV f sx l u it ba recs c = false := by
  have : allB f l u it ba recs = false := decide_eq_false fun q => by have := q i hi; rw [h] at this; cases this
  unfold audV
  rw [this]; simp
theorem audV_same {c : Bool} (h : same0 sx recs = false) : audV f sx l u it ba recs c = false := by
  unfold audV
  rw [h]; simp
theorem audV_end {c : Bool} (h1 : same0 sx recs = true) (h2 : ∀ i, i < recs.length → recB f l u it ba (recs.getD i rc0) = true) : audV f sx l u it ba recs c = (dropsR recs && c) := by
  have : allB f l u it ba recs = true := decide_eq_true h2
  unfold audV
  rw [this, h1]; simp
theorem auditS_c (h : AuP f sx l u e recs) (hb : bRcs recs) {c : Bool} (hc : CC 41 [.d (pxD f sx l u so e it ba), .d (.agg [.i st, .sl (recs.map encRc)])] [] (.d (.b c)) []) :
    CC 17 [.d (pxD f sx l u so e it ba), .d (.agg [.i st, .sl (recs.map encRc)])] [] (.d (.b (audV f sx l u it ba recs c))) [] := by
  have n7 := h.n7
  have hd : CC 40 [.d (.agg [.i st, .sl (recs.map encRc)])] [] (.d (.b (dropsR recs))) [] := Con.ok (C := CC) ⟨hb, fun t ht => (okRc_x (h.at_ t ht).1).2⟩
  refine Den.pureI Tryz.func17 rfl 2 [.tmp 4] (by kernel_rfl) rfl rfl (by simp only [initE_nil, initE_cons, Nat.reduceAdd]; exact rfl) ?_
  repeat' first | (with_reducible first | refine nx' ?_ | refine n0 ?_ | refine rD ?_ | refine n1 ?_ | refine nilB_i fun b hb => ?_ | refine nP ?_ ?_ | refine nS fun K hK => ?_ | (refine n2 ?_ ?_ <;> intro h <;> first | subst (h : _ = true) | subst (h : _ = false) | skip) | refine And.intro ?_ ?_ | refine nK ‹Imp _ _› ?_) | exact nl | fail
  refine Wp.loopR (fun i : Nat => ⟨[(2, .ref 0 0 0), (3, .ref 1 0 0), (5, .d (.i i))], [.var [.d (.sl (f.map encNd)), .d (.sl (sx.map encX)), .d (.sl (l.map encX)), .d (.sl (u.map encX)), .d (.i so), .d (.b (sgX e)), .d (encD (nuX e)), .d (encD (deX e)), .d (.i it), .d (.i ba)] false, .var [.d (.i st), .d (.sl (recs.map encRc))] false]⟩) (fun i => recs.length - i)
    (fun i => i ≤ recs.length ∧ (∀ t, t < i → recB f l u it ba (recs.getD t rc0) = true) ∧ (0 < i → same0 sx recs = true)) 0 Weak.lo ⟨by simp, by intro t ht; omega, by simp⟩ ?_
  rintro i ⟨hi, hall, hs0⟩ K hK
  by_cases hil : i < recs.length
  · obtain ⟨hcl, hlen, hx, hfl, hf⟩ := h.cl hil
    obtain ⟨x1, x2, x3, x4⟩ := rec_enc h hil
    have hN := NPs_of hcl.of hcl.ox hcl.oL hcl.od
    have hv := valueS_c hN
    have hin := inS_c (f := f) (s := sx) (so := so) (e := e) (it := it) (ba := ba) hcl.ob hcl.oL
    have h4 := h.o4
    have hsm := sameS_c ((recs.getD i rc0).x.map xR) sx (by omega) (by omega) (hcl.oL.mono (by omega)) (h.os.mono (by omega))
    have hP := fun q => audV_all (sx := sx) (c := c) (f := f) (l := l) (u := u) (it := it) (ba := ba) hil q
    have hrec : recB f l u it ba (recs.getD i rc0) = audB f l u it ba (recs.getD i rc0).iter (recs.getD i rc0).count ((recs.getD i rc0).x.map xR) (xR (recs.getD i rc0).f) := rfl
    unfold audB at hrec
    have f8 := hfl.mono (show 40 ≤ 800 by omega)
    have hsame : i = 0 → same0 sx recs = decide ((recs.getD i rc0).x.map xR = sx) := fun q => by
      subst q
      unfold same0
      rw [decide_eq_false (by omega : ¬ recs.length = 0), Bool.false_or]
    generalize (recs.getD i rc0).x.map xR = xs at *
    generalize xR (recs.getD i rc0).f = fx at *
    cases hg : valI xs f with
    | error er =>
      have hn := valI_err hg
      rw [hg] at hv hrec
      unfold vlV at hv
      simp only at hv hrec
      rw [hP hrec]
      repeat' first | (with_reducible first | refine nx' ?_ (by simp -implicitDefEqProofs (disch := omega) only [go_sem, x1, hn]; exact rfl) | refine n0 ?_ | refine rD ?_ | refine n1 ?_ | refine nilB_i fun b hb => ?_ | refine nPc (hv) ?_ | refine nP ?_ ?_ | refine nS fun K hK => ?_ | (refine n2 ?_ ?_ <;> intro h <;> first | subst (h : _ = true) | subst (h : _ = false) | (simp only [FX, LX, x1, hn] at h) | skip) | refine And.intro ?_ ?_ | refine nK ‹Imp _ _› ?_) | exact nl | fail
    | ok v =>
      have v8 := (valI_Ln hN.2.2.2.1 hg).mono (show 40 ≤ 800 by omega)
      rw [hg] at hv hrec
      unfold vlV at hv
      simp only at hv hrec
      have hcm : (sgnX (v - fx) != 0) = !decide (v = fx) := by
        rw [Bool.eq_iff_iff, bne_iff_ne, Bool.not_eq_true', decide_eq_false_iff_not]
        exact not_congr sgnX_sub0
      by_cases c1 : v = fx
      · by_cases c2 : projV l u xs = xs
        · by_cases c3 : i = 0 ∧ ¬ xs = sx
          · obtain ⟨c3, c4⟩ := c3
            rw [audV_same (by rw [hsame c3]; exact decide_eq_false c4)]
            subst c3
            repeat' first | (with_reducible first | refine nx' ?_ (by simp -implicitDefEqProofs (disch := omega) only [go_sem, x1, x2, x3, x4, hcm, decide_eq_true c1, decide_eq_true c2, decide_eq_false c4]; exact rfl) | refine n0 ?_ | refine rD ?_ | refine n1 ?_ | refine nilB_i fun b hb => ?_ | refine nPc (hv) ?_ | refine nPc (hin) ?_ | refine nPc (hsm) ?_ | refine nP ?_ ?_ | refine nS fun K hK => ?_ | (refine n2 ?_ ?_ <;> intro h <;> first | subst (h : _ = true) | subst (h : _ = false) | (simp only [FX, LX, x1, x2, x3, x4, hcm, decide_eq_true c1, decide_eq_true c2, decide_eq_false c4] at h) | skip) | refine And.intro ?_ ?_ | refine nK ‹Imp _ _› ?_) | exact nl | fail
          · have hsx : i = 0 → xs = sx := fun q => Classical.byContradiction fun r => c3 ⟨q, r⟩
            have hs2 : same0 sx recs = true := by
              rcases Nat.eq_zero_or_pos i with q | q
              · rw [hsame q]; exact decide_eq_true (hsx q)
              · exact hs0 q
            by_cases c5 : (recs.getD i rc0).iter ≤ it ∧ (recs.getD i rc0).count ≤ ba
            · have hall2 : ∀ t, t < i + 1 → recB f l u it ba (recs.getD t rc0) = true := fun t ht => by
                rcases (show t < i ∨ t = i by omega) with q | q
                · exact hall t q
                · rw [q, hrec, decide_eq_true c1, decide_eq_true c2, decide_eq_true c5.1, decide_eq_true c5.2]; rfl
              by_cases c6 : i = 0
              · have c7 := hsx c6
                subst c6
                repeat' first | (with_reducible first | refine nx' ?_ (by simp -implicitDefEqProofs (disch := omega) only [go_sem, x1, x2, x3, x4, hcm, decide_eq_true c1, decide_eq_true c2, decide_eq_true c7]; exact rfl) | refine n0 ?_ | refine rD ?_ | refine n1 ?_ | refine nilB_i fun b hb => ?_ | refine nPc (hv) ?_ | refine nPc (hin) ?_ | refine nPc (hsm) ?_ | refine nP ?_ ?_ | refine nS fun K hK => ?_ | (refine n2 ?_ ?_ <;> intro h <;> first | subst (h : _ = true) | subst (h : _ = false) | (simp only [FX, LX, x1, x2, x3, x4, hcm, decide_eq_true c1, decide_eq_true c2, decide_eq_true c7] at h) | skip) | refine And.intro ?_ ?_ | refine nK ‹Imp _ _› ?_) | exact nl | fail
                all_goals first
                  | (exfalso; omega)
                  | exact ⟨1, by omega, ⟨by omega, hall2, fun _ => hs2⟩, Weak.cu⟩
              · repeat' first | (with_reducible first | refine nx' ?_ (by simp -implicitDefEqProofs (disch := omega) only [go_sem, x1, x2, x3, x4, hcm, decide_eq_true c1, decide_eq_true c2]; exact rfl) | refine n0 ?_ | refine rD ?_ | refine n1 ?_ | refine nilB_i fun b hb => ?_ | refine nPc (hv) ?_ | refine nPc (hin) ?_ | refine nPc (hsm) ?_ | refine nP ?_ ?_ | refine nS fun K hK => ?_ | (refine n2 ?_ ?_ <;> intro h <;> first | subst (h : _ = true) | subst (h : _ = false) | (simp only [FX, LX, x1, x2, x3, x4, hcm, decide_eq_true c1, decide_eq_true c2] at h) | skip) | refine And.intro ?_ ?_ | refine nK ‹Imp _ _› ?_) | exact nl | fail
                all_goals first
                  | (exfalso; omega)
                  | exact ⟨i + 1, by omega, ⟨by omega, hall2, fun _ => hs2⟩, Weak.cu⟩
            · have hq : recB f l u it ba (recs.getD i rc0) = false := by
                rw [hrec, Bool.and_assoc, Bool.and_eq_false_iff]
                right
                rw [Bool.and_eq_false_iff, decide_eq_false_iff_not, decide_eq_false_iff_not]
                omega
              rw [hP hq]
              by_cases c6 : i = 0
              · have c7 := hsx c6
                subst c6
                repeat' first | (with_reducible first | refine nx' ?_ (by simp -implicitDefEqProofs (disch := omega) only [go_sem, x1, x2, x3, x4, hcm, decide_eq_true c1, decide_eq_true c2, decide_eq_true c7]; exact rfl) | refine n0 ?_ | refine rD ?_ | refine n1 ?_ | refine nilB_i fun b hb => ?_ | refine nPc (hv) ?_ | refine nPc (hin) ?_ | refine nPc (hsm) ?_ | refine nP ?_ ?_ | refine nS fun K hK => ?_ | (refine n2 ?_ ?_ <;> intro h <;> first | subst (h : _ = true) | subst (h : _ = false) | (simp only [FX, LX, x1, x2, x3, x4, hcm, decide_eq_true c1, decide_eq_true c2, decide_eq_true c7] at h) | skip) | refine And.intro ?_ ?_ | refine nK ‹Imp _ _› ?_) | exact nl | fail
                all_goals (exfalso; omega)
              · repeat' first | (with_reducible first | refine nx' ?_ (by simp -implicitDefEqProofs (disch := omega) only [go_sem, x1, x2, x3, x4, hcm, decide_eq_true c1, decide_eq_true c2]; exact rfl) | refine n0 ?_ | refine rD ?_ | refine n1 ?_ | refine nilB_i fun b hb => ?_ | refine nPc (hv) ?_ | refine nPc (hin) ?_ | refine nPc (hsm) ?_ | refine nP ?_ ?_ | refine nS fun K hK => ?_ | (refine n2 ?_ ?_ <;> intro h <;> first | subst (h : _ = true) | subst (h : _ = false) | (simp only [FX, LX, x1, x2, x3, x4, hcm, decide_eq_true c1, decide_eq_true c2] at h) | skip) | refine And.intro ?_ ?_ | refine nK ‹Imp _ _› ?_) | exact nl | fail
                all_goals (exfalso; omega)
        · rw [hP (by rw [hrec, decide_eq_false c2]; simp)]
          repeat' first | (with_reducible first | refine nx' ?_ (by simp -implicitDefEqProofs (disch := omega) only [go_sem, x1, x2, x3, x4, hcm, decide_eq_true c1, decide_eq_false c2]; exact rfl) | refine n0 ?_ | refine rD ?_ | refine n1 ?_ | refine nilB_i fun b hb => ?_ | refine nPc (hv) ?_ | refine nPc (hin) ?_ | refine nPc (hsm) ?_ | refine nP ?_ ?_ | refine nS fun K hK => ?_ | (refine n2 ?_ ?_ <;> intro h <;> first | subst (h : _ = true) | subst (h : _ = false) | (simp only [FX, LX, x1, x2, x3, x4, hcm, decide_eq_true c1, decide_eq_false c2] at h) | skip) | refine And.intro ?_ ?_ | refine nK ‹Imp _ _› ?_) | exact nl | fail
      · rw [hP (by rw [hrec, decide_eq_false c1]; simp)]
        repeat' first | (with_reducible first | refine nx' ?_ (by simp -implicitDefEqProofs (disch := omega) only [go_sem, x1, x2, x3, x4, hcm, decide_eq_false c1]; exact rfl) | refine n0 ?_ | refine rD ?_ | refine n1 ?_ | refine nilB_i fun b hb => ?_ | refine nPc (hv) ?_ | refine nPc (hin) ?_ | refine nPc (hsm) ?_ | refine nP ?_ ?_ | refine nS fun K hK => ?_ | (refine n2 ?_ ?_ <;> intro h <;> first | subst (h : _ = true) | subst (h : _ = false) | (simp only [FX, LX, x1, x2, x3, x4, hcm, decide_eq_false c1] at h) | skip) | refine And.intro ?_ ?_ | refine nK ‹Imp _ _› ?_) | exact nl | fail
  · have hs : same0 sx recs = true := by
      rcases Nat.eq_zero_or_pos i with q | q
      · unfold same0; rw [decide_eq_true (by omega)]; rfl
      · exact hs0 q
    repeat' first | (with_reducible first | refine nx' ?_ | refine n0 ?_ | refine rD ?_ | refine n1 ?_ | refine nilB_i fun b hb => ?_ | refine nPc (hd) ?_ | refine nPc (hc) ?_ | refine nP ?_ ?_ | refine nS fun K hK => ?_ | (refine n2 ?_ ?_ <;> intro h <;> first | subst (h : _ = true) | subst (h : _ = false) | skip) | refine And.intro ?_ ?_ | refine nK ‹Imp _ _› ?_) | exact nl | fail
    all_goals (rw [audV_end hs (fun t ht => hall t (by omega))]; simp [*])
end
end Go.PL

/- XA4 -/
namespace Go.PL
open Go Go.Proofs
set_option maxRecDepth 10000
set_option maxHeartbeats 4000000
set_option linter.unusedSimpArgs false
set_option linter.unusedVariables false
theorem AuP.of_ok {f : List Nd} {s l w : List Rt} {so : Int} {g : Bool} {u v : List Int} {it ba st : Int} {recs : List Rc} (hp : okPb ⟨f, s, l, w, so, ⟨g, u, v⟩, it, ba⟩ = true) (hr : okRp ⟨st, recs⟩ = true) (hl : recs.length = 0 ∨ (recs.getD 0 rc0).x.length = s.length) :
    ∃ (sx lx ux : List Rat) (e : Rat), pbD f s l w so g u v it ba = pxD f sx lx ux so e it ba ∧ AuP f sx lx ux e recs := by
  obtain ⟨h1, h2, h3, sx, lx, ux, e, es, el, eu, ee, hs, hb, he⟩ := okPb_X hp
  have hlen : sx.length = s.length := by rw [es, List.length_map]
  have hn : recs.length ≤ 7 := by
    unfold okRp at hr
    rw [decide_eq_true_eq] at hr
    exact hr.2.2.1
  refine ⟨sx, lx, ux, e, pbD_X es el eu ee, h1, he, hs, by omega, by rw [hlen]; exact hb, by rw [hlen]; exact h2, hn, fun i hi => ?_⟩
  obtain ⟨k1, k2, k3⟩ := okRp_at hr hi
  exact ⟨k1, by omega⟩
theorem auditR_c (f : List Nd) (s l w : List Rt) (so : Int) (g : Bool) (u v : List Int) (it ba st : Int) (recs : List Rc) (hb : bPb ⟨f, s, l, w, so, ⟨g, u, v⟩, it, ba⟩) (hr : bRcs recs) :
    ∃ (b : Bool) (c : Int), CC 6 [.d (pbD f s l w so g u v it ba), .d (.agg [.i st, .sl (recs.map encRc)])] [] (.tup [.d (.b b), .d (.i c)]) [] ∧ CC 9 [.d (pbD f s l w so g u v it ba), .d (.agg [.i st, .sl (recs.map encRc)])] [] (.tup [.d (.b b), .d (.i c)]) [] := by
  have ha := auditC_c f s l w so g u v it ba st recs hb hr
  have hs := askS_c f s l w so g u v it ba st recs hb hr
  by_cases h0 : askC ⟨f, s, l, w, so, ⟨g, u, v⟩, it, ba⟩ ⟨st, recs⟩ = 0
  · obtain ⟨k1, k2, k3⟩ := askC_zero h0
    obtain ⟨b, c1, c2⟩ := claims_c f s l w so g u v it ba st recs k1 k2 k3
    rw [h0] at ha hs
    obtain ⟨sx, lx, ux, e, hD, hA⟩ := AuP.of_ok k1 k2 k3
    rw [hD] at c1 c2 ha hs ⊢
    have hS := auditS_c hA hr c1
    refine ⟨audV f sx lx ux it ba recs b, 0, ?_, ?_⟩
    · refine Den.pureI Tryz.func6 rfl 2 [.tmp 4, .tmp 5] (by kernel_rfl) rfl rfl (by simp only [initE_nil, initE_cons, Nat.reduceAdd]; exact rfl) ?_
      repeat' first | (with_reducible first | refine nx' ?_ | refine n0 ?_ | refine rD ?_ | refine n1 ?_ | refine nilB_i fun b hb => ?_ | refine nPc (hs) ?_ | refine nPc (hS) ?_ | refine nP ?_ ?_ | refine nS fun K hK => ?_ | (refine n2 ?_ ?_ <;> intro h <;> first | subst (h : _ = true) | subst (h : _ = false) | skip) | refine And.intro ?_ ?_ | refine nK ‹Imp _ _› ?_) | exact nl | fail
    · have n7 := hA.n7
      have o4 := hA.o4
      have hd : CC 25 [.d (.agg [.i st, .sl (recs.map encRc)])] [] (.d (.b (dropsR recs))) [] := Con.ok (C := CC) ⟨hr, fun t ht => (okRc_x (hA.at_ t ht).1).2⟩
      have sm : 0 < recs.length → CC 23 [vV ((recs.getD 0 rc0).x.map xR), vV sx] [] (.d (.b (decide ((recs.getD 0 rc0).x.map xR = sx)))) [] := fun q => by
        obtain ⟨hcl, hlen, _, _, _⟩ := hA.cl q
        exact Con.ok (C := CC) ⟨by omega, by omega, hcl.oL.mono (by omega), hA.os.mono (by omega)⟩
      have hrest : same0 sx recs = true → ∀ (K : St → Prop), True := fun _ _ => trivial
      by_cases hz : recs.length = 0
      · have hs0 : same0 sx recs = true := by unfold same0; rw [decide_eq_true hz]; rfl
        obtain rfl := List.eq_nil_of_length_eq_zero hz
        refine Den.pureI Tryz.func9 rfl 2 [.tmp 4, .tmp 5] (by kernel_rfl) rfl rfl (by simp only [initE_nil, initE_cons, Nat.reduceAdd]; exact rfl) ?_
        repeat' first | (with_reducible first | refine nx' ?_ | refine n0 ?_ | refine rD ?_ | refine n1 ?_ | refine nilB_i fun b hb => ?_ | refine nPc (ha) ?_ | refine nP ?_ ?_ | refine nS fun K hK => ?_ | (refine n2 ?_ ?_ <;> intro h <;> first | subst (h : _ = true) | subst (h : _ = false) | skip) | refine And.intro ?_ ?_ | refine nK ‹Imp _ _› ?_) | exact nl | fail
        refine Wp.loopR (fun _ : Unit => ⟨[(2, .ref 0 0 0), (3, .ref 1 0 0), (31, .d (.sl (([] : List Rc).map encRc))), (32, .d (.i 0)), (33, .d (.i 0))], [.var [.d (.sl (f.map encNd)), .d (.sl (sx.map encX)), .d (.sl (lx.map encX)), .d (.sl (ux.map encX)), .d (.i so), .d (.b (sgX e)), .d (encD (nuX e)), .d (encD (deX e)), .d (.i it), .d (.i ba)] false, .var [.d (.i st), .d (.sl (([] : List Rc).map encRc))] false]⟩) (fun _ => 0) (fun _ => True) () Weak.lo trivial ?_
        rintro _ _ K hK
        repeat' first | (with_reducible first | refine nx' ?_ | refine n0 ?_ | refine rD ?_ | refine n1 ?_ | refine nilB_i fun b hb => ?_ | refine nPc (hd) ?_ | refine nPc (c2) ?_ | refine nP ?_ ?_ | refine nS fun K hK => ?_ | (refine n2 ?_ ?_ <;> intro h <;> first | subst (h : _ = true) | subst (h : _ = false) | skip) | refine And.intro ?_ ?_ | refine nK ‹Imp _ _› ?_) | exact nl | fail
        all_goals (rw [audV_end hs0 (fun i hi => by simp at hi)]; simp [*])
      · have hs0 : same0 sx recs = decide ((recs.getD 0 rc0).x.map xR = sx) := by unfold same0; rw [decide_eq_false hz, Bool.false_or]
        have sm := sm (by omega)
        obtain ⟨x1, _, _, _⟩ := rec_enc hA (show 0 < recs.length by omega)
        by_cases hq : (recs.getD 0 rc0).x.map xR = sx
        · have hs1 : same0 sx recs = true := by rw [hs0]; exact decide_eq_true hq
          rw [decide_eq_true hq] at sm
          refine Den.pureI Tryz.func9 rfl 2 [.tmp 4, .tmp 5] (by kernel_rfl) rfl rfl (by simp only [initE_nil, initE_cons, Nat.reduceAdd]; exact rfl) ?_
          repeat' first | (with_reducible first | refine nx' ?_ (by simp -implicitDefEqProofs (disch := omega) only [go_sem, x1]; exact rfl) | refine n0 ?_ | refine rD ?_ | refine n1 ?_ | refine nilB_i fun b hb => ?_ | refine nPc (ha) ?_ | refine nPc (sm) ?_ | refine nP ?_ ?_ | refine nS fun K hK => ?_ | (refine n2 ?_ ?_ <;> intro h <;> first | subst (h : _ = true) | subst (h : _ = false) | (simp only [FX, LX, x1] at h) | skip) | refine And.intro ?_ ?_ | refine nK ‹Imp _ _› ?_) | exact nl | fail
          refine Wp.loopR (fun i : Nat => ⟨[(2, .ref 0 0 0), (3, .ref 1 0 0), (31, .d (.sl (recs.map encRc))), (32, .d (.i recs.length)), (33, .d (.i i))], [.var [.d (.sl (f.map encNd)), .d (.sl (sx.map encX)), .d (.sl (lx.map encX)), .d (.sl (ux.map encX)), .d (.i so), .d (.b (sgX e)), .d (encD (nuX e)), .d (encD (deX e)), .d (.i it), .d (.i ba)] false, .var [.d (.i st), .d (.sl (recs.map encRc))] false]⟩) (fun i => recs.length - i)
            (fun i => i ≤ recs.length ∧ ∀ t, t < i → recB f lx ux it ba (recs.getD t rc0) = true) 0 Weak.lo ⟨by simp, by intro t ht; omega⟩ ?_
          rintro i ⟨hi, hall⟩ K hK
          by_cases hil : i < recs.length
          · obtain ⟨hcl, hlen, hx, hfl, hf⟩ := hA.cl hil
            obtain ⟨y1, y2, y3, y4⟩ := rec_enc hA hil
            have hP := fun q => audV_all (sx := sx) (c := b) (f := f) (l := lx) (u := ux) (it := it) (ba := ba) hil q
            have hau := audits_c (f := f) (s := sx) (so := so) (it := it) (ba := ba) hcl (ri := (recs.getD i rc0).iter) (rc := (recs.getD i rc0).count) hfl
            have hrec : recB f lx ux it ba (recs.getD i rc0) = audB f lx ux it ba (recs.getD i rc0).iter (recs.getD i rc0).count ((recs.getD i rc0).x.map xR) (xR (recs.getD i rc0).f) := rfl
            rw [← hrec] at hau
            cases hb2 : recB f lx ux it ba (recs.getD i rc0) with
            | false =>
              rw [hb2] at hau
              rw [hP hb2]
              repeat' first | (with_reducible first | refine nx' ?_ (by simp -implicitDefEqProofs (disch := omega) only [go_sem, y1, y2, y3, y4]; exact rfl) | refine n0 ?_ | refine rD ?_ | refine n1 ?_ | refine nilB_i fun b hb => ?_ | refine nPc (hau) ?_ | refine nP ?_ ?_ | refine nS fun K hK => ?_ | (refine n2 ?_ ?_ <;> intro h <;> first | subst (h : _ = true) | subst (h : _ = false) | (simp only [FX, LX, y1, y2, y3, y4] at h) | skip) | refine And.intro ?_ ?_ | refine nK ‹Imp _ _› ?_) | exact nl | fail
            | true =>
              rw [hb2] at hau
              repeat' first | (with_reducible first | refine nx' ?_ (by simp -implicitDefEqProofs (disch := omega) only [go_sem, y1, y2, y3, y4]; exact rfl) | refine n0 ?_ | refine rD ?_ | refine n1 ?_ | refine nilB_i fun b hb => ?_ | refine nPc (hau) ?_ | refine nP ?_ ?_ | refine nS fun K hK => ?_ | (refine n2 ?_ ?_ <;> intro h <;> first | subst (h : _ = true) | subst (h : _ = false) | (simp only [FX, LX, y1, y2, y3, y4] at h) | skip) | refine And.intro ?_ ?_ | refine nK ‹Imp _ _› ?_) | exact nl | fail
              exact ⟨i + 1, by omega, ⟨by omega, fun t ht => by
                rcases (show t < i ∨ t = i by omega) with q | q
                · exact hall t q
                · rw [q]; exact hb2⟩, Weak.cu⟩
          · repeat' first | (with_reducible first | refine nx' ?_ | refine n0 ?_ | refine rD ?_ | refine n1 ?_ | refine nilB_i fun b hb => ?_ | refine nPc (hd) ?_ | refine nPc (c2) ?_ | refine nP ?_ ?_ | refine nS fun K hK => ?_ | (refine n2 ?_ ?_ <;> intro h <;> first | subst (h : _ = true) | subst (h : _ = false) | skip) | refine And.intro ?_ ?_ | refine nK ‹Imp _ _› ?_) | exact nl | fail
            all_goals (rw [audV_end hs1 (fun t ht => hall t (by omega))]; simp [*])
        · have hs1 : same0 sx recs = false := by rw [hs0]; exact decide_eq_false hq
          rw [decide_eq_false hq] at sm
          rw [audV_same hs1]
          refine Den.pureI Tryz.func9 rfl 2 [.tmp 4, .tmp 5] (by kernel_rfl) rfl rfl (by simp only [initE_nil, initE_cons, Nat.reduceAdd]; exact rfl) ?_
          repeat' first | (with_reducible first | refine nx' ?_ (by simp -implicitDefEqProofs (disch := omega) only [go_sem, x1]; exact rfl) | refine n0 ?_ | refine rD ?_ | refine n1 ?_ | refine nilB_i fun b hb => ?_ | refine nPc (ha) ?_ | refine nPc (sm) ?_ | refine nP ?_ ?_ | refine nS fun K hK => ?_ | (refine n2 ?_ ?_ <;> intro h <;> first | subst (h : _ = true) | subst (h : _ = false) | (simp only [FX, LX, x1] at h) | skip) | refine And.intro ?_ ?_ | refine nK ‹Imp _ _› ?_) | exact nl | fail
  · have hn : (askC ⟨f, s, l, w, so, ⟨g, u, v⟩, it, ba⟩ ⟨st, recs⟩ != 0) = true := by rw [bne_iff_ne]; exact h0
    generalize askC ⟨f, s, l, w, so, ⟨g, u, v⟩, it, ba⟩ ⟨st, recs⟩ = c at *
    refine ⟨false, c, ?_, ?_⟩
    · refine Den.pureI Tryz.func6 rfl 2 [.tmp 4, .tmp 5] (by kernel_rfl) rfl rfl (by simp only [initE_nil, initE_cons, Nat.reduceAdd]; exact rfl) ?_
      repeat' first | (with_reducible first | refine nx' ?_ (by simp -implicitDefEqProofs (disch := omega) only [go_sem, hn]; exact rfl) | refine n0 ?_ | refine rD ?_ | refine n1 ?_ | refine nilB_i fun b hb => ?_ | refine nPc (hs) ?_ | refine nP ?_ ?_ | refine nS fun K hK => ?_ | (refine n2 ?_ ?_ <;> intro h <;> first | subst (h : _ = true) | subst (h : _ = false) | (simp only [FX, LX, hn] at h) | skip) | refine And.intro ?_ ?_ | refine nK ‹Imp _ _› ?_) | exact nl | fail
    · refine Den.pureI Tryz.func9 rfl 2 [.tmp 4, .tmp 5] (by kernel_rfl) rfl rfl (by simp only [initE_nil, initE_cons, Nat.reduceAdd]; exact rfl) ?_
      repeat' first | (with_reducible first | refine nx' ?_ (by simp -implicitDefEqProofs (disch := omega) only [go_sem, hn]; exact rfl) | refine n0 ?_ | refine rD ?_ | refine n1 ?_ | refine nilB_i fun b hb => ?_ | refine nPc (ha) ?_ | refine nP ?_ ?_ | refine nS fun K hK => ?_ | (refine n2 ?_ ?_ <;> intro h <;> first | subst (h : _ = true) | subst (h : _ = false) | (simp only [FX, LX, hn] at h) | skip) | refine And.intro ?_ ?_ | refine nK ‹Imp _ _› ?_) | exact nl | fail
end Go.PL

/- XA5 -/
namespace Go.PL
open Go Go.Proofs
set_option maxRecDepth 10000
set_option maxHeartbeats 4000000
set_option linter.unusedSimpArgs false
set_option linter.unusedVariables false
theorem bPb_of {p : Pb} (h : szPb p ≤ 1048576) : bPb p := by
  unfold szPb at h
  exact ⟨by omega, bV_of (by omega), bV_of (by omega), bV_of (by omega), by unfold szR at h; omega, by unfold szR at h; omega⟩
instance (f : List Nd) (s l w : List Rt) (so : Int) (g : Bool) (u v : List Int) (it ba st : Int) (m : List Rc) : Con CC 3 [.d (pbD f s l w so g u v it ba), .d (.agg [.i st, .sl (m.map encRc)])]
    (pPb ⟨f, s, l, w, so, ⟨g, u, v⟩, it, ba⟩ ∧ pRcs m) (.d (.b true)) := by
  constructor; intro ⟨hp, hq⟩
  by_cases h1 : szL 1048576 (szPb ⟨f, s, l, w, so, ⟨g, u, v⟩, it, ba⟩) < 0
  · refine Den.pureI Tryz.func3 rfl 2 [.tmp 4] (by kernel_rfl) rfl rfl (by simp only [initE_nil, initE_cons, Nat.reduceAdd]; exact rfl) ?_
    repeat' first | (with_reducible first | refine nx' ?_ | refine n0 ?_ | refine Wp.drawR (by decide +kernel) ?_ | refine Wp.drawSR [2, 3, 4] [false, false, true, true, true] (.op 2 [0] (.op 3 [] (.op 4 [] .done))) (by decide +kernel) ?_ | refine Wp.drawSR [2, 3, 4] [false, false, true, true, true] (.op 2 [0] (.op 3 [] (.op 4 [] .done))) (by decide +kernel) ?_ | refine Wp.drawSR [] [false, false, false, false, false, false, false, false, false, false] .done (by decide +kernel) ?_ | refine n1 ?_ | refine nilB_i fun b hb => ?_ | refine nP ?_ ?_ | refine nS fun K hK => ?_ | (refine n2 ?_ ?_ <;> intro h <;> first | subst (h : _ = true) | subst (h : _ = false) | skip) | refine And.intro ?_ ?_ | refine nK ‹Imp _ _› ?_) | exact nl | fail
  · obtain ⟨q1, q2⟩ := szL_of (left := 1048576) (n := szPb ⟨f, s, l, w, so, ⟨g, u, v⟩, it, ba⟩) (by omega)
    have b1 : bPb ⟨f, s, l, w, so, ⟨g, u, v⟩, it, ba⟩ := bPb_of (by omega)
    have hr := szL_rm (left := 1048576) (n := szPb ⟨f, s, l, w, so, ⟨g, u, v⟩, it, ba⟩) ⟨by omega, by omega⟩
    by_cases h2 : szL (szL 1048576 (szPb ⟨f, s, l, w, so, ⟨g, u, v⟩, it, ba⟩)) (szRcs m) < 0
    · refine Den.pureI Tryz.func3 rfl 2 [.tmp 4] (by kernel_rfl) rfl rfl (by simp only [initE_nil, initE_cons, Nat.reduceAdd]; exact rfl) ?_
      repeat' first | (with_reducible first | refine nx' ?_ | refine n0 ?_ | refine Wp.drawR (by decide +kernel) ?_ | refine Wp.drawSR [2, 3, 4] [false, false, true, true, true] (.op 2 [0] (.op 3 [] (.op 4 [] .done))) (by decide +kernel) ?_ | refine Wp.drawSR [2, 3, 4] [false, false, true, true, true] (.op 2 [0] (.op 3 [] (.op 4 [] .done))) (by decide +kernel) ?_ | refine Wp.drawSR [] [false, false, false, false, false, false, false, false, false, false] .done (by decide +kernel) ?_ | refine n1 ?_ | refine nilB_i fun b hb => ?_ | refine nP ?_ ?_ | refine nS fun K hK => ?_ | (refine n2 ?_ ?_ <;> intro h <;> first | subst (h : _ = true) | subst (h : _ = false) | skip) | refine And.intro ?_ ?_ | refine nK ‹Imp _ _› ?_) | exact nl | fail
    · have b2 : bRcs m := by
        obtain ⟨q3, _⟩ := szL_of (left := szL 1048576 (szPb ⟨f, s, l, w, so, ⟨g, u, v⟩, it, ba⟩)) (n := szRcs m) (by omega)
        exact bRcs_of (by rw [szL_pos (by rw [q2] at q3; omega)]; rw [q2] at q3; omega)
      obtain ⟨b, c, c1, c2⟩ := auditR_c f s l w so g u v it ba st m b1 b2
      refine Den.pureI Tryz.func3 rfl 2 [.tmp 4] (by kernel_rfl) rfl rfl (by simp only [initE_nil, initE_cons, Nat.reduceAdd]; exact rfl) ?_
      repeat' first | (with_reducible first | refine nx' ?_ | refine n0 ?_ | refine Wp.drawR (by decide +kernel) ?_ | refine Wp.drawSR [2, 3, 4] [false, false, true, true, true] (.op 2 [0] (.op 3 [] (.op 4 [] .done))) (by decide +kernel) ?_ | refine Wp.drawSR [2, 3, 4] [false, false, true, true, true] (.op 2 [0] (.op 3 [] (.op 4 [] .done))) (by decide +kernel) ?_ | refine Wp.drawSR [] [false, false, false, false, false, false, false, false, false, false] .done (by decide +kernel) ?_ | refine n1 ?_ | refine nilB_i fun b hb => ?_ | refine nPc (c1) ?_ | refine nPc (c2) ?_ | refine nP ?_ ?_ | refine nS fun K hK => ?_ | (refine n2 ?_ ?_ <;> intro h <;> first | subst (h : _ = true) | subst (h : _ = false) | skip) | refine And.intro ?_ ?_ | refine nK ‹Imp _ _› ?_) | exact nl | fail
      all_goals (first | exact absurd rfl (by assumption) | exact absurd trivial (by assumption) | simp at h)
end Go.PL
