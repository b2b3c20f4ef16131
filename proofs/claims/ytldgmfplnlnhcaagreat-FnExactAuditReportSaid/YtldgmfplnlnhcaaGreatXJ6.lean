/- A plain machine, sound for the given model, and contracts of functions over it, part 43: XJ6. Nothing is assumed. -/
import Derived.Test.YtldgmfplnlnhcaaGreatXJ5
set_option linter.unusedSimpArgs false
set_option linter.unusedVariables false
set_option linter.unusedSectionVars false
/- XJ6 -/
namespace Go.PL
open Go Go.Proofs
set_option maxRecDepth 10000
set_option maxHeartbeats 4000000
set_option linter.unusedSimpArgs false
set_option linter.unusedVariables false
theorem gives_c {m : Nat} {x : List Rat} {out : List (Rat × List Rat)} {n : Nd} (h : GP m x out n) : CC 154 (gArgs m x out n.op n.a n.b n.n) [] (givV (iNodeF m x out n)) [] := by
  obtain ⟨o, a, b, k⟩ := n
  have h1 : 1 ≤ o := h.o1
  have h2 : o ≤ 8 := h.o8
  obtain rfl | rfl | rfl | rfl | rfl | rfl | rfl | rfl : o = 1 ∨ o = 2 ∨ o = 3 ∨ o = 4 ∨ o = 5 ∨ o = 6 ∨ o = 7 ∨ o = 8 := by omega
  · exact giv1 h
  · exact giv2 h
  · exact giv3 h
  · exact giv4 h
  · exact giv5 h
  · exact giv6 h
  · exact giv7 h
  · exact giv8 h
def okJ (m : Nat) (j : Rat × List Rat) : Prop := Ln 40 j.1 ∧ LnV 40 j.2 ∧ j.2.length = m
theorem iNodeF_step {m : Nat} {x : List Rat} {out : List (Rat × List Rat)} {n : Nd} : (match iNodeF m x out n with
    | .ok c => if fitX c.1 && c.2.all fitX then Except.ok c else .error 7
    | .error e => .error e) = iStep fitX m x out n := by
  by_cases h : n.op = 8 ∧ fitX ((out.getD n.a.toNat j00).1 ^ n.n.toNat) = false
  · have e : iNodeF m x out n = .error 7 := if_pos h
    rw [e]
    obtain ⟨h1, h2⟩ := h
    have e2 : iNode m x out n = .ok ((out.getD n.a.toNat j00).1 ^ n.n.toNat, along m fun i => dPow (out.getD n.a.toNat j00).1 n.n.toNat * (out.getD n.a.toNat j00).2.getD i 0) := by
      obtain ⟨o, a, b, k⟩ := n
      subst h1
      rfl
    unfold iStep
    rw [e2]
    simp only [h2, Bool.false_and, Bool.false_eq_true, if_false]
  · have e : iNodeF m x out n = iNode m x out n := if_neg h
    rw [e]; rfl
theorem iNodeF_err {m : Nat} {x : List Rat} {out : List (Rat × List Rat)} {n : Nd} {e : Int} (h : iNodeF m x out n = .error e) : (e != 0) = true := by
  by_cases q : n.op = 8 ∧ fitX ((out.getD n.a.toNat j00).1 ^ n.n.toNat) = false
  · rw [show iNodeF m x out n = .error 7 from if_pos q] at h
    cases h; rfl
  · rw [show iNodeF m x out n = iNode m x out n from if_neg q] at h
    unfold iNode at h
    simp only at h
    repeat' split at h
    all_goals first
      | (cases h; done)
      | (cases h; rfl)
theorem iNode_len {m : Nat} {x : List Rat} {out : List (Rat × List Rat)} {n : Nd} {c : Rat × List Rat} (h : iNode m x out n = .ok c) : c.2.length = m := by
  obtain ⟨f, hf⟩ := node_len h
  rw [hf]; simp [along]
theorem iStep_ok {m : Nat} {x : List Rat} {out : List (Rat × List Rat)} {n : Nd} {c : Rat × List Rat} (h : iStep fitX m x out n = .ok c) : okJ m c := by
  unfold iStep at h
  cases hn : iNode m x out n with
  | error e => rw [hn] at h; cases h
  | ok d =>
    rw [hn] at h
    simp only at h
    split at h
    · rename_i hf
      cases h
      rw [Bool.and_eq_true, List.all_eq_true] at hf
      exact ⟨fitX_Ln hf.1, fun y hy => fitX_Ln (hf.2 y hy), iNode_len hn⟩
    · cases h
/-- What nodes have to be for their jets. -/
def GPs (m : Nat) (x : List Rat) (l : List Nd) : Prop := m ≤ 4 ∧ x.length ≤ 4 ∧ LnV 40 x ∧ l.length ≤ 1000 ∧ ∀ i, i < l.length →
  1 ≤ (l.getD i nd0).op ∧ (l.getD i nd0).op ≤ 8 ∧ ((l.getD i nd0).op = 1 → 0 ≤ (l.getD i nd0).n ∧ (l.getD i nd0).n ≤ 999999999) ∧ ((l.getD i nd0).op = 2 → 0 ≤ (l.getD i nd0).n ∧ (l.getD i nd0).n < x.length) ∧
  ((l.getD i nd0).op = 8 → 0 ≤ (l.getD i nd0).n ∧ (l.getD i nd0).n ≤ 8) ∧ (3 ≤ (l.getD i nd0).op → 0 ≤ (l.getD i nd0).a ∧ (l.getD i nd0).a < i ∧ 0 ≤ (l.getD i nd0).b ∧ (l.getD i nd0).b < i)
theorem GPs.at {m : Nat} {x : List Rat} {l : List Nd} (h : GPs m x l) {i : Nat} (hi : i < l.length) {out : List (Rat × List Rat)} (ho : out.length = i) (hj : ∀ j ∈ out, okJ m j) : GP m x out (l.getD i nd0) := by
  obtain ⟨h1, h2, h3, _, h4⟩ := h
  obtain ⟨k1, k2, k3, k4, k5, k6⟩ := h4 i hi
  exact ⟨h1, h2, h3, hj, k1, k2, k3, k4, k5, by rw [ho]; exact k6⟩
def jetsV : Except Int (List (Rat × List Rat)) → V
  | .ok R => .tup [.d (.sl (R.map encJ)), .d (.i 0)]
  | .error e => .tup [.d (.sl []), .d (.i e)]
theorem iEval_drop {m : Nat} {x : List Rat} {l : List Nd} {i : Nat} (hi : i < l.length) {out : List (Rat × List Rat)} : iEval fitX m x (l.drop i) out = (match iStep fitX m x out (l.getD i nd0) with
    | .ok j => iEval fitX m x (l.drop (i + 1)) (out ++ [j])
    | .error e => .error e) := by
  have e : l.drop i = l.getD i nd0 :: l.drop (i + 1) := by
    rw [List.getD, List.getElem?_eq_getElem hi]
    exact List.drop_eq_getElem_cons hi
  rw [e]; rfl
theorem Weak.fzL {nF : Nat} {env : List (Nat × V)} {os : List Ob} {s' : St} (l : List Nat) (h : Weak nF ⟨env, freeze os l⟩ s') : Weak nF ⟨env, os⟩ s' := .trans (.fz l) h
theorem jetsV_err {e : Int} : jetsV (.error e) = .tup [.d (.sl []), .d (.i e)] := rfl
theorem jetsV_ok {R : List (Rat × List Rat)} : jetsV (.ok R) = .tup [.d (.sl (R.map encJ)), .d (.i 0)] := rfl
theorem jets_c {m : Nat} {x : List Rat} {l : List Nd} (h : GPs m x l) : CC 127 [.d (.agg [.i m, .nil]), .d (.sl (l.map encNd)), vV x] [] (jetsV (iEval fitX m x l [])) [] := by
  have hl := h.2.2.2.1
  have hm := h.1
  refine Den.pureI Tryz.func127 rfl 3 [.tmp 6, .tmp 7] (by kernel_rfl) rfl rfl (by simp only [initE_nil, initE_cons, Nat.reduceAdd]; exact rfl) ?_
  repeat' first | (with_reducible first | refine nx' ?_ | refine n0 ?_ | refine rD ?_ | refine n1 ?_ | refine nilB_i fun b hb => ?_ | refine nP ?_ ?_ | refine nS fun K hK => ?_ | (refine n2 ?_ ?_ <;> intro h <;> first | subst (h : _ = true) | subst (h : _ = false) | skip) | refine And.intro ?_ ?_ | refine nK ‹Imp _ _› ?_) | exact nl | fail
  refine Wp.loopR (fun o : List (Rat × List Rat) => ⟨[(2, vV x), (3, .ref 0 0 0), (8, .msl 1 0 o.length), (14, .d (.sl (l.map encNd))), (15, .d (.i l.length)), (16, .d (.i o.length))], [.var [.d (.i m), .d .nil] false, .arr 8 (o.map encJ) true]⟩) (fun o => l.length - o.length)
    (fun o => o.length ≤ l.length ∧ (∀ j ∈ o, okJ m j) ∧ iEval fitX m x (l.drop o.length) o = iEval fitX m x l []) [] (Weak.fzL [1] Weak.lo) ⟨by simp, by simp, by simp⟩ ?_
  rintro o ⟨hi, hj, hE⟩ K hK
  by_cases hil : o.length < l.length
  · have hg := gives_c (h.at hil rfl hj)
    rw [iEval_drop hil, ← iNodeF_step] at hE
    cases hn : iNodeF m x o (l.getD o.length nd0) with
    | error e =>
      have he := iNodeF_err hn
      rw [hn] at hE hg
      simp only at hE
      unfold givV at hg
      rw [← hE, jetsV_err]
      repeat' first | (with_reducible first | refine nx' ?_ (by simp -implicitDefEqProofs (disch := omega) only [go_sem, he]; exact rfl) | refine n0 ?_ | refine rD ?_ | refine n1 ?_ | refine nilB_i fun b hb => ?_ | refine nPc (hg) ?_ | refine nP ?_ ?_ | refine nS fun K hK => ?_ | (refine n2 ?_ ?_ <;> intro h <;> first | subst (h : _ = true) | subst (h : _ = false) | (simp only [FX, LX, he] at h) | skip) | refine And.intro ?_ ?_ | refine nK ‹Imp _ _› ?_) | exact nl | fail
    | ok c =>
      have hc := iNodeF_step (m := m) (x := x) (out := o) (n := l.getD o.length nd0)
      have h4 : ∀ f, iNodeF m x o (l.getD o.length nd0) = .ok f → f.2.length ≤ 4 := fun f hf => by
        have := hf
        unfold iNodeF at this
        split at this
        · cases this
        · rw [iNode_len this]; exact hm
      have h4 := h4 c hn
      rw [hn] at hE hg hc
      unfold givV at hg
      simp only at hE hg hc
      cases hf : (fitX c.1 && c.2.all fitX) with
      | true =>
        rw [hf, if_pos rfl] at hE hc
        simp only at hE
        have hok := iStep_ok hc.symm
        repeat' first | (with_reducible first | refine nx' ?_ (by simp -implicitDefEqProofs (disch := omega) only [go_sem, hf]; exact rfl) | refine n0 ?_ | refine rD ?_ | refine n1 ?_ | refine nilB_i fun b hb => ?_ | refine nPc (hg) ?_ | refine nP ?_ ?_ | refine nS fun K hK => ?_ | (refine n2 ?_ ?_ <;> intro h <;> first | subst (h : _ = true) | subst (h : _ = false) | (simp only [FX, LX, hf] at h) | skip) | refine And.intro ?_ ?_ | refine nK ‹Imp _ _› ?_) | exact nl | fail
        refine ⟨o ++ [c], by simp; omega, ⟨by simp; omega, ?_, by rw [List.length_append]; exact hE⟩, Weak.cu⟩
        intro j hjm
        rcases List.mem_append.1 hjm with q | q
        · exact hj j q
        · rw [List.mem_singleton.1 q]; exact hok
      | false =>
        rw [hf, if_neg (by simp)] at hE
        simp only at hE
        rw [← hE, jetsV_err]
        repeat' first | (with_reducible first | refine nx' ?_ (by simp -implicitDefEqProofs (disch := omega) only [go_sem, hf]; exact rfl) | refine n0 ?_ | refine rD ?_ | refine n1 ?_ | refine nilB_i fun b hb => ?_ | refine nPc (hg) ?_ | refine nP ?_ ?_ | refine nS fun K hK => ?_ | (refine n2 ?_ ?_ <;> intro h <;> first | subst (h : _ = true) | subst (h : _ = false) | (simp only [FX, LX, hf] at h) | skip) | refine And.intro ?_ ?_ | refine nK ‹Imp _ _› ?_) | exact nl | fail
  · repeat' first | (with_reducible first | refine nx' ?_ | refine n0 ?_ | refine rD ?_ | refine n1 ?_ | refine nilB_i fun b hb => ?_ | refine nP ?_ ?_ | refine nS fun K hK => ?_ | (refine n2 ?_ ?_ <;> intro h <;> first | subst (h : _ = true) | subst (h : _ = false) | skip) | refine And.intro ?_ ?_ | refine nK ‹Imp _ _› ?_) | exact nl | fail
    rw [List.drop_of_length_le (by omega)] at hE
    rw [← hE]
    show _ = jetsV (.ok o)
    rw [jetsV_ok]
def lastJ (R : List (Rat × List Rat)) : Rat × List Rat := R.getD (R.length - 1) j00
def jatV : Except Int (List (Rat × List Rat)) → V
  | .ok R => .tup [jV (lastJ R).1 (lastJ R).2, .d (.i 0)]
  | .error e => .tup [.d zjD, .d (.i e)]
theorem iEval_inv {m : Nat} {x : List Rat} : ∀ {l : List Nd} {out R : List (Rat × List Rat)}, (∀ j ∈ out, okJ m j) → iEval fitX m x l out = .ok R → R.length = out.length + l.length ∧ ∀ j ∈ R, okJ m j
  | [], out, R, ho, h => by cases h; exact ⟨rfl, ho⟩
  | n :: r, out, R, ho, h => by
    unfold iEval at h
    cases hc : iStep fitX m x out n with
    | error e => rw [hc] at h; cases h
    | ok c =>
      rw [hc] at h
      have := iEval_inv (out := out ++ [c]) (fun j hj => by
        rcases List.mem_append.1 hj with q | q
        · exact ho j q
        · rw [List.mem_singleton.1 q]; exact iStep_ok hc) h
      exact ⟨by rw [this.1]; simp; omega, this.2⟩
theorem iEval_err {m : Nat} {x : List Rat} : ∀ {l : List Nd} {out : List (Rat × List Rat)} {e : Int}, iEval fitX m x l out = .error e → (e != 0) = true
  | [], out, e, h => by cases h
  | n :: r, out, e, h => by
    unfold iEval at h
    cases hc : iStep fitX m x out n with
    | error e2 =>
      rw [hc] at h
      cases h
      rw [← iNodeF_step] at hc
      cases hn : iNodeF m x out n with
      | error e3 => rw [hn] at hc; cases hc; exact iNodeF_err hn
      | ok c =>
        rw [hn] at hc
        simp only at hc
        split at hc
        · cases hc
        · cases hc; rfl
    | ok c =>
      rw [hc] at h
      exact iEval_err h
theorem lastJ_ok {m : Nat} {R : List (Rat × List Rat)} (h : 0 < R.length) (ho : ∀ j ∈ R, okJ m j) : okJ m (lastJ R) := ho _ (getD_mem j00 (by omega))
theorem jetAt_c {m : Nat} {x : List Rat} {l : List Nd} (h : GPs m x l) (h0 : 0 < l.length) : CC 83 [.d (.agg [.i m, .nil]), .d (.agg [.sl (l.map encNd)]), vV x] [] (jatV (iEval fitX m x l [])) [] := by
  have hj := jets_c h
  cases he : iEval fitX m x l [] with
  | error e =>
    have hn := iEval_err he
    rw [he, jetsV_err] at hj
    show CC _ _ _ (.tup [.d zjD, .d (.i e)]) _
    refine Den.pureP Tryz.func83 rfl 3 [.cell 6 120, .tmp 7] (by kernel_rfl) rfl rfl (by simp only [initE_nil, initE_cons, Nat.reduceAdd]; exact rfl) ?_
    repeat' first | (with_reducible first | refine nx' ?_ (by simp -implicitDefEqProofs (disch := omega) only [go_sem, hn]; exact rfl) | refine n0 ?_ | refine rD ?_ | refine n1 ?_ | refine nilB_i fun b hb => ?_ | refine nPc (hj) ?_ | refine nP ?_ ?_ | refine nS fun K hK => ?_ | (refine n2 ?_ ?_ <;> intro h <;> first | subst (h : _ = true) | subst (h : _ = false) | (simp only [FX, LX, hn] at h) | skip) | refine And.intro ?_ ?_ | refine nK ‹Imp _ _› ?_) | exact nl | fail
  | ok R =>
    have hi := iEval_inv (by simp) he
    rw [he, jetsV_ok] at hj
    have hR : 0 < R.length := by rw [hi.1]; simp; exact h0
    have hR2 : R.length ≤ 1000 := by rw [hi.1]; simpa using h.2.2.2.1
    have e1 : ((R.length : Int) - 1).toNat = R.length - 1 := by omega
    show CC _ _ _ (.tup [jV (lastJ R).1 (lastJ R).2, .d (.i 0)]) _
    unfold lastJ
    refine Den.pureP Tryz.func83 rfl 3 [.cell 6 120, .tmp 7] (by kernel_rfl) rfl rfl (by simp only [initE_nil, initE_cons, Nat.reduceAdd]; exact rfl) ?_
    repeat' first | (with_reducible first | refine nx' ?_ (by simp -implicitDefEqProofs (disch := omega) only [go_sem, e1]; exact rfl) | refine n0 ?_ | refine rD ?_ | refine n1 ?_ | refine nilB_i fun b hb => ?_ | refine nPc (hj) ?_ | refine nP ?_ ?_ | refine nS fun K hK => ?_ | (refine n2 ?_ ?_ <;> intro h <;> first | subst (h : _ = true) | subst (h : _ = false) | (simp only [FX, LX, e1] at h) | skip) | refine And.intro ?_ ?_ | refine nK ‹Imp _ _› ?_) | exact nl | fail
end Go.PL
