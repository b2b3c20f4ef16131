/- A plain machine, sound for the given model, and contracts of functions over it, part 36: XS2. Nothing is assumed. -/
import Derived.Test.YtldgmfplnlnhcaaGreatXS1
import Derived.Test.YtldgmfplnlnhcaaGreatXJ3
set_option linter.unusedSimpArgs false
set_option linter.unusedVariables false
set_option linter.unusedSectionVars false
/- XS2 -/
namespace Go.PL
open Go Go.Proofs
set_option maxRecDepth 10000
set_option maxHeartbeats 4000000
set_option linter.unusedSimpArgs false
set_option linter.unusedVariables false
abbrev zsD : D := .agg [.b false, .nil, .nil, .b false, .nil, .nil, .b false, .nil, .nil, .b false, .nil, .nil]
def lastS (R : List (Rat × Rat)) : Rat × Rat := R.getD (R.length - 1) (0, 0)
def evV : Except Int (List (Rat × Rat)) → V
  | .ok R => .tup [sV (lastS R).1 (lastS R).2, .d (.i 0)]
  | .error e => .tup [.d zsD, .d (.i e)]
theorem evV_err {e : Int} : evV (.error e) = .tup [.d zsD, .d (.i e)] := rfl
theorem evV_ok {R : List (Rat × Rat)} : evV (.ok R) = .tup [sV (lastS R).1 (lastS R).2, .d (.i 0)] := rfl
theorem sEval_drop {x v : List Rat} {l : List Nd} {i : Nat} (hi : i < l.length) {out : List (Rat × Rat)} : sEval fitX x v (l.drop i) out = (match sStep fitX x v out (l.getD i nd0) with
    | .ok j => sEval fitX x v (l.drop (i + 1)) (out ++ [j])
    | .error e => .error e) := by
  have e : l.drop i = l.getD i nd0 :: l.drop (i + 1) := by
    rw [List.getD, List.getElem?_eq_getElem hi]
    exact List.drop_eq_getElem_cons hi
  rw [e]; rfl
/-- What nodes have to be for the reference's jets. -/
def SPs (x v w : List Rat) (l : List Nd) : Prop := LnV 40 x ∧ LnV 40 v ∧ v.length = x.length ∧ w.length = x.length ∧ (∀ i, w.getD i 0 = 0) ∧ 0 < l.length ∧ l.length ≤ 1000 ∧ ∀ i, i < l.length →
  1 ≤ (l.getD i nd0).op ∧ (l.getD i nd0).op ≤ 8 ∧ ((l.getD i nd0).op = 1 → 0 ≤ (l.getD i nd0).n ∧ (l.getD i nd0).n ≤ 999999999) ∧ ((l.getD i nd0).op = 2 → 0 ≤ (l.getD i nd0).n ∧ (l.getD i nd0).n < x.length) ∧
  ((l.getD i nd0).op = 8 → 0 ≤ (l.getD i nd0).n ∧ (l.getD i nd0).n ≤ 8) ∧ (3 ≤ (l.getD i nd0).op → 0 ≤ (l.getD i nd0).a ∧ (l.getD i nd0).a < i ∧ 0 ≤ (l.getD i nd0).b ∧ (l.getD i nd0).b < i)
def okS (j : Rat × Rat) : Prop := Ln 40 j.1 ∧ Ln 40 j.2
theorem sStep_of {x v : List Rat} {out : List (Rat × Rat)} {n : Nd} {f g : Rat} (h : sNode x v out n = .ok (f, g)) : sStep fitX x v out n = if fitX f && fitX g then .ok (f, g) else .error 7 := by
  unfold sStep; rw [h]
theorem Ln.t {a : Nat} {x : Rat} (h : Ln a x) (ha : a ≤ 400 := by omega) : Ln 400 x := h.mono ha
theorem Ln.u {a : Nat} {x : Rat} (h : Ln a x) (ha : a ≤ 800 := by omega) : Ln 800 x := h.mono ha
theorem Ln.w {a : Nat} {x : Rat} (h : Ln a x) (ha : a ≤ 1600 := by omega) : Ln 1600 x := h.mono ha
theorem okS_app {o : List (Rat × Rat)} {c : Rat × Rat} (h : ∀ j ∈ o, okS j) (hf : (fitX c.1 && fitX c.2) = true) : ∀ j ∈ o ++ [c], okS j := by
  intro j hj
  rcases List.mem_append.1 hj with q | q
  · exact h j q
  · rw [List.mem_singleton.1 q]
    rw [Bool.and_eq_true] at hf
    exact ⟨fitX_Ln hf.1, fitX_Ln hf.2⟩
section
variable {x v : List Rat} {o : List (Rat × Rat)} {nd : Nd}
theorem sN1 (ho : nd.op = 1) : sNode x v o nd = .ok ((nd.n : Rat), 0) := by obtain ⟨q, a, b, k⟩ := nd; cases ho; rfl
theorem sN2 (ho : nd.op = 2) : sNode x v o nd = .ok (x.getD nd.n.toNat 0, v.getD nd.n.toNat 0) := by obtain ⟨q, a, b, k⟩ := nd; cases ho; rfl
theorem sN3 (ho : nd.op = 3) : sNode x v o nd = .ok ((o.getD nd.a.toNat (0, 0)).1 + (o.getD nd.b.toNat (0, 0)).1, (o.getD nd.a.toNat (0, 0)).2 + (o.getD nd.b.toNat (0, 0)).2) := by obtain ⟨q, a, b, k⟩ := nd; cases ho; rfl
theorem sN4 (ho : nd.op = 4) : sNode x v o nd = .ok ((o.getD nd.a.toNat (0, 0)).1 + -(o.getD nd.b.toNat (0, 0)).1, (o.getD nd.a.toNat (0, 0)).2 + -(o.getD nd.b.toNat (0, 0)).2) := by obtain ⟨q, a, b, k⟩ := nd; cases ho; rfl
theorem sN5 (ho : nd.op = 5) : sNode x v o nd = .ok ((o.getD nd.a.toNat (0, 0)).1 * (o.getD nd.b.toNat (0, 0)).1, (o.getD nd.a.toNat (0, 0)).2 * (o.getD nd.b.toNat (0, 0)).1 + (o.getD nd.a.toNat (0, 0)).1 * (o.getD nd.b.toNat (0, 0)).2) := by obtain ⟨q, a, b, k⟩ := nd; cases ho; rfl
theorem sN6e (ho : nd.op = 6) (h0 : (o.getD nd.b.toNat (0, 0)).1 = 0) : sNode x v o nd = .error 10 := by obtain ⟨q, a, b, k⟩ := nd; cases ho; exact if_pos h0
theorem sN6 (ho : nd.op = 6) (h0 : ¬ (o.getD nd.b.toNat (0, 0)).1 = 0) : sNode x v o nd = .ok (jMul (o.getD nd.a.toNat (0, 0)) (jOver (o.getD nd.b.toNat (0, 0)))) := by obtain ⟨q, a, b, k⟩ := nd; cases ho; exact if_neg h0
theorem sN7 (ho : nd.op = 7) : sNode x v o nd = .ok (-(o.getD nd.a.toNat (0, 0)).1, -(o.getD nd.a.toNat (0, 0)).2) := by obtain ⟨q, a, b, k⟩ := nd; cases ho; rfl
theorem sN8 (ho : nd.op = 8) : sNode x v o nd = .ok (jPow (o.getD nd.a.toNat (0, 0)) nd.n.toNat) := by obtain ⟨q, a, b, k⟩ := nd; cases ho; rfl
theorem jPow_len {a : Rat × Rat} (h1 : Ln 40 a.1) (h2 : Ln 40 a.2) {k : Nat} (hk : k ≤ 8) : Ln 400 (jPow a k).1 ∧ Ln 400 (jPow a k).2 := by
  rw [jPow_eq]
  exact ⟨(pow_bnd h1 hk).mono (by omega), ((dPow_len h1 hk).mul h2).mono (by omega)⟩
end
set_option maxHeartbeats 8000000 in
theorem eval_c {x v w : List Rat} {l : List Nd} (h : SPs x v w l) : CC 69 [.d (.agg [.sl (l.map encNd)]), vV x, vV v, vV w] [] (evV (sEval fitX x v l [])) [] := by
  obtain ⟨hx, hv, hvl, hwl, hw0, hl0, hl, hg⟩ := h
  have z := z8
  refine Den.pureP Tryz.func69 rfl 4 [.cell 8 105, .tmp 9] (by kernel_rfl) rfl rfl (by simp only [initE_nil, initE_cons, Nat.reduceAdd]; exact rfl) ?_
  repeat' first | (with_reducible first | refine nx' ?_ | refine n0 ?_ | refine Wp.drawR (by decide +kernel) ?_ | refine Wp.drawSR [15, 16, 17] [false, false, false, false, false, false, false, false, false, false, false, false, false, false, false, true, true, true] (.op 15 [0,1,2,3,4,5,6,7,8,9,10,11,12,13,14] (.op 16 [] (.op 17 [] .done))) (by decide +kernel) ?_ | refine Wp.drawSR [10, 11, 12] [false, false, false, false, false, false, false, false, false, false, true, true, true] (.op 10 [0,1,2,3,4] (.op 11 [] (.op 12 [] .done))) (by decide +kernel) ?_ | refine Wp.drawSR [10, 11, 12] [false, false, false, false, false, false, false, false, false, false, true, true, true] (.op 10 [0,1,2,3,4] (.op 11 [] (.op 12 [] .done))) (by decide +kernel) ?_ | refine n1 ?_ | refine nilB_i fun b hb => ?_ | refine nP ?_ ?_ | refine nS fun K hK => ?_ | (refine n2 ?_ ?_ <;> intro h <;> first | subst (h : _ = true) | subst (h : _ = false) | skip) | refine And.intro ?_ ?_ | refine nK ‹Imp _ _› ?_) | exact nl | fail
  refine Wp.loopR (fun o : List (Rat × Rat) => ⟨[(1, vV x), (2, vV v), (3, vV w), (4, .ref 0 0 0), (8, .ref 1 0 0), (10, .msl 2 0 o.length), (11, .d (.i o.length))], [.var [.d (.sl (l.map encNd))] false, .var [.d (.b false), .d .nil, .d .nil, .d (.b false), .d .nil, .d .nil, .d (.b false), .d .nil, .d .nil, .d (.b false), .d .nil, .d .nil] false, .arr 12 (o.map encS) false]⟩) (fun o => l.length - o.length)
    (fun o => o.length ≤ l.length ∧ (∀ j ∈ o, okS j) ∧ sEval fitX x v (l.drop o.length) o = sEval fitX x v l []) [] Weak.lo ⟨by simp, by simp, by simp⟩ ?_
  rintro o ⟨hi, hj, hE⟩ K hK
  by_cases hil : o.length < l.length
  · obtain ⟨g1, g2, g3, g4, g5, g6⟩ := hg _ hil
    rw [sEval_drop hil] at hE
    generalize hn : l.getD o.length nd0 = nd at *
    obtain ho | ho | ho | ho | ho | ho | ho | ho : nd.op = 1 ∨ nd.op = 2 ∨ nd.op = 3 ∨ nd.op = 4 ∨ nd.op = 5 ∨ nd.op = 6 ∨ nd.op = 7 ∨ nd.op = 8 := by omega
    · obtain ⟨c0, c1⟩ := g3 ho
      have hs : sNode x v o nd = .ok ((nd.n : Rat), 0) := sN1 ho
      rw [sStep_of hs] at hE
      have f1 : Ln 1600 (nd.n : Rat) := by
        refine Ln.w (a := 3) ⟨?_, ?_⟩
        · rw [Rat.num_intCast]; exact digs_len_le (by omega)
        · rw [Rat.den_intCast, digs_one]; simp
      have f2 := z.w
      repeat' first | (with_reducible first | refine nx' ?_ (by simp -implicitDefEqProofs (disch := omega) only [go_sem, hn, ho]; exact rfl) | refine n0 ?_ | refine Wp.drawR (by decide +kernel) ?_ | refine Wp.drawSR [15, 16, 17] [false, false, false, false, false, false, false, false, false, false, false, false, false, false, false, true, true, true] (.op 15 [0,1,2,3,4,5,6,7,8,9,10,11,12,13,14] (.op 16 [] (.op 17 [] .done))) (by decide +kernel) ?_ | refine Wp.drawSR [10, 11, 12] [false, false, false, false, false, false, false, false, false, false, true, true, true] (.op 10 [0,1,2,3,4] (.op 11 [] (.op 12 [] .done))) (by decide +kernel) ?_ | refine Wp.drawSR [10, 11, 12] [false, false, false, false, false, false, false, false, false, false, true, true, true] (.op 10 [0,1,2,3,4] (.op 11 [] (.op 12 [] .done))) (by decide +kernel) ?_ | refine n1 ?_ | refine nilB_i fun b hb => ?_ | refine nP ?_ ?_ | refine nS fun K hK => ?_ | (refine n2 ?_ ?_ <;> intro h <;> first | subst (h : _ = true) | subst (h : _ = false) | (simp only [FX, LX, hn, ho] at h) | skip) | refine And.intro ?_ ?_ | refine nK ‹Imp _ _› ?_) | exact nl | fail
      · have hf : (fitX ((nd.n : Rat)) && fitX (0)) = false := by rw [Bool.and_eq_false_iff]; exact h
        rw [hf, if_neg (by simp)] at hE
        rw [← hE]; rfl
      · have hf : (fitX ((nd.n : Rat)) && fitX (0)) = true := by rw [Bool.and_eq_true]; exact h
        rw [hf, if_pos rfl] at hE
        exact ⟨o ++ [((nd.n : Rat), 0)], by simp; omega, ⟨by simp; omega, okS_app hj hf, by rw [List.length_append]; exact hE⟩, Weak.cu⟩
    · obtain ⟨c0, c1⟩ := g4 ho
      have hs : sNode x v o nd = .ok (x.getD nd.n.toNat 0, v.getD nd.n.toNat 0) := sN2 ho
      rw [sStep_of hs] at hE
      have f1 := (hx.get (show nd.n.toNat < x.length by omega)).w
      have f2 := (hv.get (show nd.n.toNat < v.length by omega)).w
      repeat' first | (with_reducible first | refine nx' ?_ (by simp -implicitDefEqProofs (disch := omega) only [go_sem, hn, ho, hw0]; exact rfl) | refine n0 ?_ | refine Wp.drawR (by decide +kernel) ?_ | refine Wp.drawSR [15, 16, 17] [false, false, false, false, false, false, false, false, false, false, false, false, false, false, false, true, true, true] (.op 15 [0,1,2,3,4,5,6,7,8,9,10,11,12,13,14] (.op 16 [] (.op 17 [] .done))) (by decide +kernel) ?_ | refine Wp.drawSR [10, 11, 12] [false, false, false, false, false, false, false, false, false, false, true, true, true] (.op 10 [0,1,2,3,4] (.op 11 [] (.op 12 [] .done))) (by decide +kernel) ?_ | refine Wp.drawSR [10, 11, 12] [false, false, false, false, false, false, false, false, false, false, true, true, true] (.op 10 [0,1,2,3,4] (.op 11 [] (.op 12 [] .done))) (by decide +kernel) ?_ | refine n1 ?_ | refine nilB_i fun b hb => ?_ | refine nP ?_ ?_ | refine nS fun K hK => ?_ | (refine n2 ?_ ?_ <;> intro h <;> first | subst (h : _ = true) | subst (h : _ = false) | (simp only [FX, LX, hn, ho, hw0] at h) | skip) | refine And.intro ?_ ?_ | refine nK ‹Imp _ _› ?_) | exact nl | fail
      · have hf : (fitX (x.getD nd.n.toNat 0) && fitX (v.getD nd.n.toNat 0)) = false := by rw [Bool.and_eq_false_iff]; exact h
        rw [hf, if_neg (by simp)] at hE
        rw [← hE]; rfl
      · have hf : (fitX (x.getD nd.n.toNat 0) && fitX (v.getD nd.n.toNat 0)) = true := by rw [Bool.and_eq_true]; exact h
        rw [hf, if_pos rfl] at hE
        exact ⟨o ++ [(x.getD nd.n.toNat 0, v.getD nd.n.toNat 0)], by simp; omega, ⟨by simp; omega, okS_app hj hf, by rw [List.length_append]; exact hE⟩, Weak.cu⟩
    · obtain ⟨a0, a1, b0, b1⟩ := g6 (by omega)
      obtain ⟨ja1, ja2⟩ := hj _ (getD_mem (0, 0) (show nd.a.toNat < o.length by omega))
      obtain ⟨jb1, jb2⟩ := hj _ (getD_mem (0, 0) (show nd.b.toNat < o.length by omega))
      have hs : sNode x v o nd = .ok ((o.getD nd.a.toNat (0, 0)).1 + (o.getD nd.b.toNat (0, 0)).1, (o.getD nd.a.toNat (0, 0)).2 + (o.getD nd.b.toNat (0, 0)).2) := sN3 ho
      rw [sStep_of hs] at hE
      have p1 := ja1.u
      have p2 := ja2.u
      have p3 := jb1.u
      have p4 := jb2.u
      have f1 := (ja1.add jb1).w
      have f2 := (ja2.add jb2).w
      repeat' first | (with_reducible first | refine nx' ?_ (by simp -implicitDefEqProofs (disch := omega) only [go_sem, hn, ho]; exact rfl) | refine n0 ?_ | refine Wp.drawR (by decide +kernel) ?_ | refine Wp.drawSR [15, 16, 17] [false, false, false, false, false, false, false, false, false, false, false, false, false, false, false, true, true, true] (.op 15 [0,1,2,3,4,5,6,7,8,9,10,11,12,13,14] (.op 16 [] (.op 17 [] .done))) (by decide +kernel) ?_ | refine Wp.drawSR [10, 11, 12] [false, false, false, false, false, false, false, false, false, false, true, true, true] (.op 10 [0,1,2,3,4] (.op 11 [] (.op 12 [] .done))) (by decide +kernel) ?_ | refine Wp.drawSR [10, 11, 12] [false, false, false, false, false, false, false, false, false, false, true, true, true] (.op 10 [0,1,2,3,4] (.op 11 [] (.op 12 [] .done))) (by decide +kernel) ?_ | refine n1 ?_ | refine nilB_i fun b hb => ?_ | refine nP ?_ ?_ | refine nS fun K hK => ?_ | (refine n2 ?_ ?_ <;> intro h <;> first | subst (h : _ = true) | subst (h : _ = false) | (simp only [FX, LX, hn, ho] at h) | skip) | refine And.intro ?_ ?_ | refine nK ‹Imp _ _› ?_) | exact nl | fail
      · have hf : (fitX ((o.getD nd.a.toNat (0, 0)).1 + (o.getD nd.b.toNat (0, 0)).1) && fitX ((o.getD nd.a.toNat (0, 0)).2 + (o.getD nd.b.toNat (0, 0)).2)) = false := by rw [Bool.and_eq_false_iff]; exact h
        rw [hf, if_neg (by simp)] at hE
        rw [← hE]; rfl
      · have hf : (fitX ((o.getD nd.a.toNat (0, 0)).1 + (o.getD nd.b.toNat (0, 0)).1) && fitX ((o.getD nd.a.toNat (0, 0)).2 + (o.getD nd.b.toNat (0, 0)).2)) = true := by rw [Bool.and_eq_true]; exact h
        rw [hf, if_pos rfl] at hE
        exact ⟨o ++ [((o.getD nd.a.toNat (0, 0)).1 + (o.getD nd.b.toNat (0, 0)).1, (o.getD nd.a.toNat (0, 0)).2 + (o.getD nd.b.toNat (0, 0)).2)], by simp; omega, ⟨by simp; omega, okS_app hj hf, by rw [List.length_append]; exact hE⟩, Weak.cu⟩
    · obtain ⟨a0, a1, b0, b1⟩ := g6 (by omega)
      obtain ⟨ja1, ja2⟩ := hj _ (getD_mem (0, 0) (show nd.a.toNat < o.length by omega))
      obtain ⟨jb1, jb2⟩ := hj _ (getD_mem (0, 0) (show nd.b.toNat < o.length by omega))
      have hs : sNode x v o nd = .ok ((o.getD nd.a.toNat (0, 0)).1 + -(o.getD nd.b.toNat (0, 0)).1, (o.getD nd.a.toNat (0, 0)).2 + -(o.getD nd.b.toNat (0, 0)).2) := sN4 ho
      rw [sStep_of hs] at hE
      have p1 := ja1.u
      have p2 := ja2.u
      have p3 := jb1.u
      have p4 := jb2.u
      have p5 := jb1.neg.u
      have p6 := jb2.neg.u
      have f1 := (ja1.add jb1.neg).w
      have f2 := (ja2.add jb2.neg).w
      repeat' first | (with_reducible first | refine nx' ?_ (by simp -implicitDefEqProofs (disch := omega) only [go_sem, hn, ho]; exact rfl) | refine n0 ?_ | refine Wp.drawR (by decide +kernel) ?_ | refine Wp.drawSR [15, 16, 17] [false, false, false, false, false, false, false, false, false, false, false, false, false, false, false, true, true, true] (.op 15 [0,1,2,3,4,5,6,7,8,9,10,11,12,13,14] (.op 16 [] (.op 17 [] .done))) (by decide +kernel) ?_ | refine Wp.drawSR [10, 11, 12] [false, false, false, false, false, false, false, false, false, false, true, true, true] (.op 10 [0,1,2,3,4] (.op 11 [] (.op 12 [] .done))) (by decide +kernel) ?_ | refine Wp.drawSR [10, 11, 12] [false, false, false, false, false, false, false, false, false, false, true, true, true] (.op 10 [0,1,2,3,4] (.op 11 [] (.op 12 [] .done))) (by decide +kernel) ?_ | refine n1 ?_ | refine nilB_i fun b hb => ?_ | refine nP ?_ ?_ | refine nS fun K hK => ?_ | (refine n2 ?_ ?_ <;> intro h <;> first | subst (h : _ = true) | subst (h : _ = false) | (simp only [FX, LX, hn, ho] at h) | skip) | refine And.intro ?_ ?_ | refine nK ‹Imp _ _› ?_) | exact nl | fail
      · have hf : (fitX ((o.getD nd.a.toNat (0, 0)).1 + -(o.getD nd.b.toNat (0, 0)).1) && fitX ((o.getD nd.a.toNat (0, 0)).2 + -(o.getD nd.b.toNat (0, 0)).2)) = false := by rw [Bool.and_eq_false_iff]; exact h
        rw [hf, if_neg (by simp)] at hE
        rw [← hE]; rfl
      · have hf : (fitX ((o.getD nd.a.toNat (0, 0)).1 + -(o.getD nd.b.toNat (0, 0)).1) && fitX ((o.getD nd.a.toNat (0, 0)).2 + -(o.getD nd.b.toNat (0, 0)).2)) = true := by rw [Bool.and_eq_true]; exact h
        rw [hf, if_pos rfl] at hE
        exact ⟨o ++ [((o.getD nd.a.toNat (0, 0)).1 + -(o.getD nd.b.toNat (0, 0)).1, (o.getD nd.a.toNat (0, 0)).2 + -(o.getD nd.b.toNat (0, 0)).2)], by simp; omega, ⟨by simp; omega, okS_app hj hf, by rw [List.length_append]; exact hE⟩, Weak.cu⟩
    · obtain ⟨a0, a1, b0, b1⟩ := g6 (by omega)
      obtain ⟨ja1, ja2⟩ := hj _ (getD_mem (0, 0) (show nd.a.toNat < o.length by omega))
      obtain ⟨jb1, jb2⟩ := hj _ (getD_mem (0, 0) (show nd.b.toNat < o.length by omega))
      have hs : sNode x v o nd = .ok ((o.getD nd.a.toNat (0, 0)).1 * (o.getD nd.b.toNat (0, 0)).1, (o.getD nd.a.toNat (0, 0)).2 * (o.getD nd.b.toNat (0, 0)).1 + (o.getD nd.a.toNat (0, 0)).1 * (o.getD nd.b.toNat (0, 0)).2) := sN5 ho
      rw [sStep_of hs] at hE
      have p1 := ja1.t
      have p2 := ja2.t
      have p3 := jb1.t
      have p4 := jb2.t
      have f1 := (ja1.mul jb1).w
      have f2 := ((ja2.mul jb1).add (ja1.mul jb2)).w
      repeat' first | (with_reducible first | refine nx' ?_ (by simp -implicitDefEqProofs (disch := omega) only [go_sem, hn, ho]; exact rfl) | refine n0 ?_ | refine Wp.drawR (by decide +kernel) ?_ | refine Wp.drawSR [15, 16, 17] [false, false, false, false, false, false, false, false, false, false, false, false, false, false, false, true, true, true] (.op 15 [0,1,2,3,4,5,6,7,8,9,10,11,12,13,14] (.op 16 [] (.op 17 [] .done))) (by decide +kernel) ?_ | refine Wp.drawSR [10, 11, 12] [false, false, false, false, false, false, false, false, false, false, true, true, true] (.op 10 [0,1,2,3,4] (.op 11 [] (.op 12 [] .done))) (by decide +kernel) ?_ | refine Wp.drawSR [10, 11, 12] [false, false, false, false, false, false, false, false, false, false, true, true, true] (.op 10 [0,1,2,3,4] (.op 11 [] (.op 12 [] .done))) (by decide +kernel) ?_ | refine n1 ?_ | refine nilB_i fun b hb => ?_ | refine nP ?_ ?_ | refine nS fun K hK => ?_ | (refine n2 ?_ ?_ <;> intro h <;> first | subst (h : _ = true) | subst (h : _ = false) | (simp only [FX, LX, hn, ho] at h) | skip) | refine And.intro ?_ ?_ | refine nK ‹Imp _ _› ?_) | exact nl | fail
      · have hf : (fitX ((o.getD nd.a.toNat (0, 0)).1 * (o.getD nd.b.toNat (0, 0)).1) && fitX ((o.getD nd.a.toNat (0, 0)).2 * (o.getD nd.b.toNat (0, 0)).1 + (o.getD nd.a.toNat (0, 0)).1 * (o.getD nd.b.toNat (0, 0)).2)) = false := by rw [Bool.and_eq_false_iff]; exact h
        rw [hf, if_neg (by simp)] at hE
        rw [← hE]; rfl
      · have hf : (fitX ((o.getD nd.a.toNat (0, 0)).1 * (o.getD nd.b.toNat (0, 0)).1) && fitX ((o.getD nd.a.toNat (0, 0)).2 * (o.getD nd.b.toNat (0, 0)).1 + (o.getD nd.a.toNat (0, 0)).1 * (o.getD nd.b.toNat (0, 0)).2)) = true := by rw [Bool.and_eq_true]; exact h
        rw [hf, if_pos rfl] at hE
        exact ⟨o ++ [((o.getD nd.a.toNat (0, 0)).1 * (o.getD nd.b.toNat (0, 0)).1, (o.getD nd.a.toNat (0, 0)).2 * (o.getD nd.b.toNat (0, 0)).1 + (o.getD nd.a.toNat (0, 0)).1 * (o.getD nd.b.toNat (0, 0)).2)], by simp; omega, ⟨by simp; omega, okS_app hj hf, by rw [List.length_append]; exact hE⟩, Weak.cu⟩
    · obtain ⟨a0, a1, b0, b1⟩ := g6 (by omega)
      obtain ⟨ja1, ja2⟩ := hj _ (getD_mem (0, 0) (show nd.a.toNat < o.length by omega))
      obtain ⟨jb1, jb2⟩ := hj _ (getD_mem (0, 0) (show nd.b.toNat < o.length by omega))
      by_cases h0 : (o.getD nd.b.toNat (0, 0)).1 = 0
      · have hs : sStep fitX x v o nd = .error 10 := by unfold sStep; rw [sN6e ho h0]
        rw [hs] at hE
        simp only at hE
        have p3 := jb1.u
        repeat' first | (with_reducible first | refine nx' ?_ (by simp -implicitDefEqProofs (disch := omega) only [go_sem, hn, ho, decide_eq_true h0]; exact rfl) | refine n0 ?_ | refine Wp.drawR (by decide +kernel) ?_ | refine Wp.drawSR [15, 16, 17] [false, false, false, false, false, false, false, false, false, false, false, false, false, false, false, true, true, true] (.op 15 [0,1,2,3,4,5,6,7,8,9,10,11,12,13,14] (.op 16 [] (.op 17 [] .done))) (by decide +kernel) ?_ | refine Wp.drawSR [10, 11, 12] [false, false, false, false, false, false, false, false, false, false, true, true, true] (.op 10 [0,1,2,3,4] (.op 11 [] (.op 12 [] .done))) (by decide +kernel) ?_ | refine Wp.drawSR [10, 11, 12] [false, false, false, false, false, false, false, false, false, false, true, true, true] (.op 10 [0,1,2,3,4] (.op 11 [] (.op 12 [] .done))) (by decide +kernel) ?_ | refine n1 ?_ | refine nilB_i fun b hb => ?_ | refine nP ?_ ?_ | refine nS fun K hK => ?_ | (refine n2 ?_ ?_ <;> intro h <;> first | subst (h : _ = true) | subst (h : _ = false) | (simp only [FX, LX, hn, ho, decide_eq_true h0] at h) | skip) | refine And.intro ?_ ?_ | refine nK ‹Imp _ _› ?_) | exact nl | fail
        rw [← hE]; rfl
      · have hs : sNode x v o nd = .ok ((o.getD nd.a.toNat (0, 0)).1 * (1 / (o.getD nd.b.toNat (0, 0)).1), (o.getD nd.a.toNat (0, 0)).2 * (1 / (o.getD nd.b.toNat (0, 0)).1) + (o.getD nd.a.toNat (0, 0)).1 * -((o.getD nd.b.toNat (0, 0)).2 * (1 / (o.getD nd.b.toNat (0, 0)).1 * (1 / (o.getD nd.b.toNat (0, 0)).1)))) := sN6 ho h0
        rw [sStep_of hs] at hE
        have i1 := Ln.one.div jb1 h0
        have i2 := (jb2.mul (i1.mul i1)).neg
        have p1 := ja1.t
        have p2 := ja2.t
        have p3 := i1.t
        have p4 := i2.t
        have p5 := jb1.u
        have f1 := (ja1.mul i1).w
        have f2 := ((ja2.mul i1).add (ja1.mul i2)).w
        repeat' first | (with_reducible first | refine nx' ?_ (by simp -implicitDefEqProofs (disch := omega) only [go_sem, hn, ho, decide_eq_false h0]; exact rfl) | refine n0 ?_ | refine Wp.drawR (by decide +kernel) ?_ | refine Wp.drawSR [15, 16, 17] [false, false, false, false, false, false, false, false, false, false, false, false, false, false, false, true, true, true] (.op 15 [0,1,2,3,4,5,6,7,8,9,10,11,12,13,14] (.op 16 [] (.op 17 [] .done))) (by decide +kernel) ?_ | refine Wp.drawSR [10, 11, 12] [false, false, false, false, false, false, false, false, false, false, true, true, true] (.op 10 [0,1,2,3,4] (.op 11 [] (.op 12 [] .done))) (by decide +kernel) ?_ | refine Wp.drawSR [10, 11, 12] [false, false, false, false, false, false, false, false, false, false, true, true, true] (.op 10 [0,1,2,3,4] (.op 11 [] (.op 12 [] .done))) (by decide +kernel) ?_ | refine n1 ?_ | refine nilB_i fun b hb => ?_ | refine nP ?_ ?_ | refine nS fun K hK => ?_ | (refine n2 ?_ ?_ <;> intro h <;> first | subst (h : _ = true) | subst (h : _ = false) | (simp only [FX, LX, hn, ho, decide_eq_false h0] at h) | skip) | refine And.intro ?_ ?_ | refine nK ‹Imp _ _› ?_) | exact nl | fail
        · have hf : (fitX ((o.getD nd.a.toNat (0, 0)).1 * (1 / (o.getD nd.b.toNat (0, 0)).1)) && fitX ((o.getD nd.a.toNat (0, 0)).2 * (1 / (o.getD nd.b.toNat (0, 0)).1) + (o.getD nd.a.toNat (0, 0)).1 * -((o.getD nd.b.toNat (0, 0)).2 * (1 / (o.getD nd.b.toNat (0, 0)).1 * (1 / (o.getD nd.b.toNat (0, 0)).1))))) = false := by rw [Bool.and_eq_false_iff]; exact h
          rw [hf, if_neg (by simp)] at hE
          rw [← hE]; rfl
        · have hf : (fitX ((o.getD nd.a.toNat (0, 0)).1 * (1 / (o.getD nd.b.toNat (0, 0)).1)) && fitX ((o.getD nd.a.toNat (0, 0)).2 * (1 / (o.getD nd.b.toNat (0, 0)).1) + (o.getD nd.a.toNat (0, 0)).1 * -((o.getD nd.b.toNat (0, 0)).2 * (1 / (o.getD nd.b.toNat (0, 0)).1 * (1 / (o.getD nd.b.toNat (0, 0)).1))))) = true := by rw [Bool.and_eq_true]; exact h
          rw [hf, if_pos rfl] at hE
          exact ⟨o ++ [((o.getD nd.a.toNat (0, 0)).1 * (1 / (o.getD nd.b.toNat (0, 0)).1), (o.getD nd.a.toNat (0, 0)).2 * (1 / (o.getD nd.b.toNat (0, 0)).1) + (o.getD nd.a.toNat (0, 0)).1 * -((o.getD nd.b.toNat (0, 0)).2 * (1 / (o.getD nd.b.toNat (0, 0)).1 * (1 / (o.getD nd.b.toNat (0, 0)).1))))], by simp; omega, ⟨by simp; omega, okS_app hj hf, by rw [List.length_append]; exact hE⟩, Weak.cu⟩
    · obtain ⟨a0, a1, b0, b1⟩ := g6 (by omega)
      obtain ⟨ja1, ja2⟩ := hj _ (getD_mem (0, 0) (show nd.a.toNat < o.length by omega))
      obtain ⟨jb1, jb2⟩ := hj _ (getD_mem (0, 0) (show nd.b.toNat < o.length by omega))
      have hs : sNode x v o nd = .ok (-(o.getD nd.a.toNat (0, 0)).1, -(o.getD nd.a.toNat (0, 0)).2) := sN7 ho
      rw [sStep_of hs] at hE
      have p1 := ja1.u
      have p2 := ja2.u
      have f1 := ja1.neg.w
      have f2 := ja2.neg.w
      repeat' first | (with_reducible first | refine nx' ?_ (by simp -implicitDefEqProofs (disch := omega) only [go_sem, hn, ho]; exact rfl) | refine n0 ?_ | refine Wp.drawR (by decide +kernel) ?_ | refine Wp.drawSR [15, 16, 17] [false, false, false, false, false, false, false, false, false, false, false, false, false, false, false, true, true, true] (.op 15 [0,1,2,3,4,5,6,7,8,9,10,11,12,13,14] (.op 16 [] (.op 17 [] .done))) (by decide +kernel) ?_ | refine Wp.drawSR [10, 11, 12] [false, false, false, false, false, false, false, false, false, false, true, true, true] (.op 10 [0,1,2,3,4] (.op 11 [] (.op 12 [] .done))) (by decide +kernel) ?_ | refine Wp.drawSR [10, 11, 12] [false, false, false, false, false, false, false, false, false, false, true, true, true] (.op 10 [0,1,2,3,4] (.op 11 [] (.op 12 [] .done))) (by decide +kernel) ?_ | refine n1 ?_ | refine nilB_i fun b hb => ?_ | refine nP ?_ ?_ | refine nS fun K hK => ?_ | (refine n2 ?_ ?_ <;> intro h <;> first | subst (h : _ = true) | subst (h : _ = false) | (simp only [FX, LX, hn, ho] at h) | skip) | refine And.intro ?_ ?_ | refine nK ‹Imp _ _› ?_) | exact nl | fail
      · have hf : (fitX (-(o.getD nd.a.toNat (0, 0)).1) && fitX (-(o.getD nd.a.toNat (0, 0)).2)) = false := by rw [Bool.and_eq_false_iff]; exact h
        rw [hf, if_neg (by simp)] at hE
        rw [← hE]; rfl
      · have hf : (fitX (-(o.getD nd.a.toNat (0, 0)).1) && fitX (-(o.getD nd.a.toNat (0, 0)).2)) = true := by rw [Bool.and_eq_true]; exact h
        rw [hf, if_pos rfl] at hE
        exact ⟨o ++ [(-(o.getD nd.a.toNat (0, 0)).1, -(o.getD nd.a.toNat (0, 0)).2)], by simp; omega, ⟨by simp; omega, okS_app hj hf, by rw [List.length_append]; exact hE⟩, Weak.cu⟩
    · obtain ⟨a0, a1, b0, b1⟩ := g6 (by omega)
      obtain ⟨ja1, ja2⟩ := hj _ (getD_mem (0, 0) (show nd.a.toNat < o.length by omega))
      obtain ⟨c0, c1⟩ := g5 ho
      have hs := sN8 (x := x) (v := v) (o := o) ho
      have hs2 : sStep fitX x v o nd = if fitX (jPow (o.getD nd.a.toNat (0, 0)) nd.n.toNat).1 && fitX (jPow (o.getD nd.a.toNat (0, 0)) nd.n.toNat).2 then .ok (jPow (o.getD nd.a.toNat (0, 0)) nd.n.toNat) else .error 7 := by
        unfold sStep; rw [hs]
      rw [hs2] at hE
      obtain ⟨kk, hkk⟩ : ∃ kk : Nat, nd.n = kk := ⟨nd.n.toNat, by omega⟩
      have z4 := Ln.one.t
      have z5 := Ln.zero.t
      have p1 := ja1.t
      have p2 := ja2.t
      have ek : nd.n.toNat = kk := by omega
      rw [ek] at hE
      repeat' first | (with_reducible first | refine nx' ?_ (by simp -implicitDefEqProofs (disch := omega) only [go_sem, hn, ho, hkk]; exact rfl) | refine n0 ?_ | refine Wp.drawR (by decide +kernel) ?_ | refine Wp.drawSR [15, 16, 17] [false, false, false, false, false, false, false, false, false, false, false, false, false, false, false, true, true, true] (.op 15 [0,1,2,3,4,5,6,7,8,9,10,11,12,13,14] (.op 16 [] (.op 17 [] .done))) (by decide +kernel) ?_ | refine Wp.drawSR [10, 11, 12] [false, false, false, false, false, false, false, false, false, false, true, true, true] (.op 10 [0,1,2,3,4] (.op 11 [] (.op 12 [] .done))) (by decide +kernel) ?_ | refine Wp.drawSR [10, 11, 12] [false, false, false, false, false, false, false, false, false, false, true, true, true] (.op 10 [0,1,2,3,4] (.op 11 [] (.op 12 [] .done))) (by decide +kernel) ?_ | refine n1 ?_ | refine nilB_i fun b hb => ?_ | refine nP ?_ ?_ | refine nS fun K hK => ?_ | (refine n2 ?_ ?_ <;> intro h <;> first | subst (h : _ = true) | subst (h : _ = false) | (simp only [FX, LX, hn, ho, hkk] at h) | skip) | refine And.intro ?_ ?_ | refine nK ‹Imp _ _› ?_) | exact nl | fail
      refine Wp.loopR (fun i : Nat => ⟨[(1, vV x), (2, vV v), (3, vV w), (4, .ref 0 0 0), (8, .ref 1 0 0), (10, .msl 2 0 o.length), (11, .d (.i o.length)), (12, .ref 3 0 0), (13, .ref 4 0 0), (14, .d (.i i))],
        [.var [.d (.sl (l.map encNd))] false, .var [.d (.b false), .d .nil, .d .nil, .d (.b false), .d .nil, .d .nil, .d (.b false), .d .nil, .d .nil, .d (.b false), .d .nil, .d .nil] false, .arr 12 (o.map encS) false, .var [.d (.i 8), .d (.i nd.a), .d (.i nd.b), .d (.i kk)] false,
          .var [.d (.b (sgX (jPow (o.getD nd.a.toNat (0, 0)) i).1)), .d (encD (nuX (jPow (o.getD nd.a.toNat (0, 0)) i).1)), .d (encD (deX (jPow (o.getD nd.a.toNat (0, 0)) i).1)), .d (.b (sgX (jPow (o.getD nd.a.toNat (0, 0)) i).2)), .d (encD (nuX (jPow (o.getD nd.a.toNat (0, 0)) i).2)), .d (encD (deX (jPow (o.getD nd.a.toNat (0, 0)) i).2)), .d (.b (sgX 0)), .d (encD (nuX 0)), .d (encD (deX 0)), .d (.b (sgX 0)), .d (encD (nuX 0)), .d (encD (deX 0))] false]⟩) (fun i => kk - i) (fun i => i ≤ kk) 0 Weak.lo (by simp) ?_
      rintro i hik K2 hK2
      obtain ⟨q1, q2⟩ := jPow_len ja1 ja2 (show i ≤ 8 by omega)
      have q3 := q1.mono (show 400 ≤ 1600 by omega)
      have q4 := q2.mono (show 400 ≤ 1600 by omega)
      repeat' first | (with_reducible first | refine nx' ?_ (by simp -implicitDefEqProofs (disch := omega) only [go_sem, hn, ho, hkk]; exact rfl) | refine n0 ?_ | refine Wp.drawR (by decide +kernel) ?_ | refine Wp.drawSR [15, 16, 17] [false, false, false, false, false, false, false, false, false, false, false, false, false, false, false, true, true, true] (.op 15 [0,1,2,3,4,5,6,7,8,9,10,11,12,13,14] (.op 16 [] (.op 17 [] .done))) (by decide +kernel) ?_ | refine Wp.drawSR [10, 11, 12] [false, false, false, false, false, false, false, false, false, false, true, true, true] (.op 10 [0,1,2,3,4] (.op 11 [] (.op 12 [] .done))) (by decide +kernel) ?_ | refine Wp.drawSR [10, 11, 12] [false, false, false, false, false, false, false, false, false, false, true, true, true] (.op 10 [0,1,2,3,4] (.op 11 [] (.op 12 [] .done))) (by decide +kernel) ?_ | refine n1 ?_ | refine nilB_i fun b hb => ?_ | refine nP ?_ ?_ | refine nS fun K hK => ?_ | (refine n2 ?_ ?_ <;> intro h <;> first | subst (h : _ = true) | subst (h : _ = false) | (simp only [FX, LX, hn, ho, hkk] at h) | skip) | refine And.intro ?_ ?_ | refine nK ‹Imp _ _› ?_) | exact nl | fail
      · exact ⟨i + 1, by omega, by omega, Weak.lo⟩
      · have hf : (fitX (jPow (o.getD nd.a.toNat (0, 0)) i).1 && fitX (jPow (o.getD nd.a.toNat (0, 0)) i).2) = false := by rw [Bool.and_eq_false_iff]; exact h
        obtain rfl : i = kk := by omega
        rw [hf, if_neg (by simp)] at hE
        rw [← hE]; rfl
      · have hf : (fitX (jPow (o.getD nd.a.toNat (0, 0)) i).1 && fitX (jPow (o.getD nd.a.toNat (0, 0)) i).2) = true := by rw [Bool.and_eq_true]; exact h
        obtain rfl : i = kk := by omega
        rw [hf, if_pos rfl] at hE
        exact ⟨o ++ [jPow (o.getD nd.a.toNat (0, 0)) i], by simp; omega, ⟨by simp; omega, okS_app hj hf, by rw [List.length_append]; exact hE⟩, Weak.cu⟩
  · have e1 : ((o.length : Int) - 1).toNat = o.length - 1 := by omega
    rw [List.drop_of_length_le (by omega)] at hE
    repeat' first | (with_reducible first | refine nx' ?_ (by simp -implicitDefEqProofs (disch := omega) only [go_sem, e1]; exact rfl) | refine n0 ?_ | refine Wp.drawR (by decide +kernel) ?_ | refine Wp.drawSR [15, 16, 17] [false, false, false, false, false, false, false, false, false, false, false, false, false, false, false, true, true, true] (.op 15 [0,1,2,3,4,5,6,7,8,9,10,11,12,13,14] (.op 16 [] (.op 17 [] .done))) (by decide +kernel) ?_ | refine Wp.drawSR [10, 11, 12] [false, false, false, false, false, false, false, false, false, false, true, true, true] (.op 10 [0,1,2,3,4] (.op 11 [] (.op 12 [] .done))) (by decide +kernel) ?_ | refine Wp.drawSR [10, 11, 12] [false, false, false, false, false, false, false, false, false, false, true, true, true] (.op 10 [0,1,2,3,4] (.op 11 [] (.op 12 [] .done))) (by decide +kernel) ?_ | refine n1 ?_ | refine nilB_i fun b hb => ?_ | refine nP ?_ ?_ | refine nS fun K hK => ?_ | (refine n2 ?_ ?_ <;> intro h <;> first | subst (h : _ = true) | subst (h : _ = false) | (simp only [FX, LX, e1] at h) | skip) | refine And.intro ?_ ?_ | refine nK ‹Imp _ _› ?_) | exact nl | fail
    rw [← hE]
    rfl
end Go.PL
