/- A plain machine, sound for the given model, and contracts of functions over it, part 39: RM4 FL. Nothing is assumed. -/
import Derived.Test.YtedbifiejciocaeGreatDoorRN4
set_option linter.unusedSimpArgs false
set_option linter.unusedVariables false
set_option linter.unusedSectionVars false
/- RM4 -/
namespace Go.PL
open Go Go.Proofs
set_option maxRecDepth 10000
set_option maxHeartbeats 4000000
set_option linter.unusedSimpArgs false
set_option linter.unusedVariables false
theorem pad_digs {l : List UInt8} (h : okN l = true) : (pad ((l.length + 3) / 4) (dv l)).take (digs (dv l)).length = digs (dv l) ∧ (pad ((l.length + 3) / 4) (dv l)).length = (l.length + 3) / 4 ∧ (digs (dv l)).length ≤ (l.length + 3) / 4 := by
  obtain ⟨h1, h2, h3, h4⟩ := okN_iff.1 h
  have hv := dv_lt h4
  have hl : (digs (dv l)).length ≤ (l.length + 3) / 4 := by
    refine digs_len_le (Nat.lt_of_lt_of_le hv ?_)
    rw [show (10000 : Nat) = 10 ^ 4 from rfl, ← Nat.pow_mul]
    exact Nat.pow_le_pow_right (by omega) (by omega)
  refine ⟨?_, length_pad _ _, hl⟩
  rw [pad_take hl, ← digs_pad]
/-- What reading hands out: two arrays, and how much of each is a part. -/
structure RdR (t : List UInt8) (e1 e2 : List Int) : Prop where
  h1 : e1.take (rdVal t).num.length = (rdVal t).num
  h2 : e2.take (rdVal t).den.length = (rdVal t).den
  l1 : (rdVal t).num.length ≤ e1.length
  l2 : (rdVal t).den.length ≤ e2.length
  m1 : e1.length ≤ 100
  m2 : e2.length ≤ 100
set_option maxHeartbeats 4000000 in
theorem readRat_yes (t : List UInt8) (ht : t.length ≤ 1048576) (hk : rdOk t = true) : ∃ e1 e2, RdR t e1 e2 ∧ CC 19 [.d (.s (strT t))] [] (.tup [.agg [.d (.b (rdVal t).neg), .msl 1 0 (rdVal t).num.length, .msl 0 0 (rdVal t).den.length], .d (.b true)]) [.arr 1 (e2.map .i) false, .arr 1 (e1.map .i) false] := by
  have hbl := bd_len t
  have hal := cutA_len (bdT t)
  have hbl2 := cutB_len (bdT t)
  cases hH : cutH (bdT t) with
  | false =>
    have hca : cutA (bdT t) = bdT t := (cut_no (by unfold cutH at hH; exact of_decide_eq_false hH)).2.1
    obtain ⟨e1, e2⟩ := rd_one hH
    rw [hk] at e1
    simp only [Bool.true_eq, Bool.and_eq_true] at e1
    obtain ⟨ha, hr⟩ := e1
    have cA := readNat_m atoi_c (bdT t) ha
    obtain ⟨p1, p2, p3⟩ := pad_digs ha
    have htx : ((ratTB ⟨ngT t, digs (dv (bdT t)), [1]⟩).toList == (strT t).toList) = true := by rw [← rdN_yes ha, text_one ha]; simp
    rw [rdN_yes ha] at hr e2
    have o160 := (okN_iff.1 ha).2.1
    refine ⟨pad (((bdT t).length + 3) / 4) (dv (bdT t)), [1], ⟨by rw [e2]; exact p1, by rw [e2]; rfl, by rw [e2, p2]; exact p3, by rw [e2]; exact Nat.le_refl _, by omega, by simp⟩, ?_⟩
    rw [e2]
    generalize pad (((bdT t).length + 3) / 4) (dv (bdT t)) = e at *
    generalize hd : digs (dv (bdT t)) = d at *
    refine Den.newG (vs := [.agg [.d (.b (ngT t)), .msl 1 0 d.length, .msl 0 0 1], .d (.b true)]) Tryz.func19 rfl 1 0 [.cell 2 25, .tmp 3] (by kernel_rfl) rfl rfl (by simp only [initE_nil, initE_cons, Nat.reduceAdd]; exact rfl) rfl rfl (by simp) rfl rfl ?_
    repeat' first | (with_reducible first | refine nx' ?_ (by simp -implicitDefEqProofs (disch := omega) only [go_sem, hH, hca, hr, htx, p1]; exact rfl) | refine n0 ?_ | refine rD ?_ | refine n1 ?_ | refine nilB_i fun b hb => ?_ | refine nPn (cA) ?_ | refine nPn (one_m) ?_ | refine nP ?_ ?_ | refine nS fun K hK => ?_ | (refine n2 ?_ ?_ <;> intro h <;> first | subst (h : _ = true) | subst (h : _ = false) | (simp only [FX, LX, hH, hca, hr, htx, p1] at h) | skip) | refine And.intro ?_ ?_ | refine nK ‹Imp _ _› ?_) | exact nl | fail
    all_goals first
      | exact finG_of [(2, .ref 2 0 0), (3, .d (.b true))] [.var [.d (.b (ngT t)), .msl 1 0 d.length, .msl 0 0 1] false, .var [.d (.b (ngT t)), .msl 1 0 d.length, .msl 0 0 1] false] (Weak.perm [2, 1, 0, 3] rfl rfl Weak.lo)
      | (rw [p1]; exact hr)
  | true =>
    obtain ⟨e1, e2, e3⟩ := rd_two hH
    have e2 := e2 hk
    rw [hk] at e1
    simp only [Bool.true_eq, Bool.and_eq_true] at e1
    obtain ⟨ha, hb, hc, hr⟩ := e1
    have cA := readNat_m atoi_c (cutA (bdT t)) ha
    have cB := readNat_m atoi_c (cutB (bdT t)) hb
    obtain ⟨p1, p2, p3⟩ := pad_digs ha
    obtain ⟨q1, q2, q3⟩ := pad_digs hb
    have htx := text_two e3 ha hb
    rw [hc] at htx
    rw [rdN_yes ha, rdN_yes hb] at hr e2 htx
    have o160 := (okN_iff.1 ha).2.1
    have r160 := (okN_iff.1 hb).2.1
    refine ⟨pad (((cutA (bdT t)).length + 3) / 4) (dv (cutA (bdT t))), pad (((cutB (bdT t)).length + 3) / 4) (dv (cutB (bdT t))), ⟨by rw [e2]; exact p1, by rw [e2]; exact q1, by rw [e2, p2]; exact p3, by rw [e2, q2]; exact q3, by omega, by omega⟩, ?_⟩
    rw [e2]
    generalize pad (((cutA (bdT t)).length + 3) / 4) (dv (cutA (bdT t))) = e at *
    generalize pad (((cutB (bdT t)).length + 3) / 4) (dv (cutB (bdT t))) = f at *
    generalize hd : digs (dv (cutA (bdT t))) = d at *
    generalize hg : digs (dv (cutB (bdT t))) = g at *
    refine Den.newG (vs := [.agg [.d (.b (ngT t)), .msl 1 0 d.length, .msl 0 0 g.length], .d (.b true)]) Tryz.func19 rfl 1 0 [.cell 2 25, .tmp 3] (by kernel_rfl) rfl rfl (by simp only [initE_nil, initE_cons, Nat.reduceAdd]; exact rfl) rfl rfl (by simp) rfl rfl ?_
    repeat' first | (with_reducible first | refine nx' ?_ (by simp -implicitDefEqProofs (disch := omega) only [go_sem, hH, hr, htx, p1, q1]; exact rfl) | refine n0 ?_ | refine rD ?_ | refine n1 ?_ | refine nilB_i fun b hb => ?_ | refine nPn (cA) ?_ | refine nPn (cB) ?_ | refine nPn (one_m) ?_ | refine nP ?_ ?_ | refine nS fun K hK => ?_ | (refine n2 ?_ ?_ <;> intro h <;> first | subst (h : _ = true) | subst (h : _ = false) | (simp only [FX, LX, hH, hr, htx, p1, q1] at h) | skip) | refine And.intro ?_ ?_ | refine nK ‹Imp _ _› ?_) | exact nl | fail
    all_goals first
      | exact finG_of [(2, .ref 4 0 0), (3, .d (.b true))] [.arr 1 (([1] : List Int).map .i) false, .var [.d (.b (ngT t)), .msl 1 0 d.length, .msl 0 0 g.length] false, .var [.d (.b (ngT t)), .msl 1 0 d.length, .msl 0 0 g.length] false] (Weak.perm [4, 1, 2, 3, 0] rfl rfl Weak.lo)
      | (rw [p1, q1]; exact hr)
end Go.PL

/- FL -/
namespace Go.PL
open Go Go.Proofs
set_option maxRecDepth 10000
set_option maxHeartbeats 4000000
set_option linter.unusedSimpArgs false
set_option linter.unusedVariables false
def firstI : List Int → Int
  | [] => 0
  | c :: r => if c = 0 then firstI r else c
theorem firstI_at : ∀ (l : List Int) (i : Nat), i < l.length → (∀ t, t < i → l.getD t 0 = 0) → l.getD i 0 ≠ 0 → firstI l = l.getD i 0
  | [], i, h, _, _ => by simp at h
  | c :: r, 0, _, _, h => by simp only [firstI]; rw [if_neg (by simpa using h)]; rfl
  | c :: r, i + 1, h, hn, hp => by
    have h0 : c = 0 := by simpa using hn 0 (by omega)
    simp only [firstI]
    rw [if_pos h0, firstI_at r i (by simpa using h) (fun t ht => by simpa using hn (t + 1) (by omega)) (by simpa using hp)]; simp
theorem firstI_none : ∀ (l : List Int), (∀ t, t < l.length → l.getD t 0 = 0) → firstI l = 0
  | [], _ => rfl
  | c :: r, h => by
    have h0 : c = 0 := by simpa using h 0 (by simp)
    simp only [firstI]
    rw [if_pos h0, firstI_none r fun t ht => by simpa using h (t + 1) (by simpa using ht)]
def longI (most : Int) (l : List Int) : Int := if l.any fun n => decide (most < n) then 2 else 0
theorem longI_at {most : Int} {l : List Int} {i : Nat} (h : i < l.length) (hp : most < l.getD i 0) : longI most l = 2 := by
  unfold longI; rw [if_pos]; rw [List.any_eq_true]; exact ⟨_, getD_mem 0 h, by simpa using hp⟩
theorem longI_none {most : Int} {l : List Int} (h : ∀ t, t < l.length → l.getD t 0 ≤ most) : longI most l = 0 := by
  unfold longI; rw [if_neg]; rw [List.any_eq_true]; rintro ⟨x, hx, hp⟩
  obtain ⟨i, hi, rfl⟩ := List.getElem_of_mem hx
  have := h i hi
  simp only [List.getD, List.getElem?_eq_getElem hi, Option.getD_some] at this
  simp only [decide_eq_true_eq] at hp
  omega
instance (most : Int) (l : List Int) : Con CC 18 [.d (.i most), .d (.sl (l.map .i))] (l.length ≤ 1048576) (.d (.i (longI most l))) := by
  constructor; intro hl
  refine Den.pureI Tryz.func18 rfl 2 [.tmp 4] (by kernel_rfl) rfl rfl (by simp only [initE_nil, initE_cons, Nat.reduceAdd]; exact rfl) ?_
  repeat' first | (with_reducible first | refine nx' ?_ | refine n0 ?_ | refine rD ?_ | refine n1 ?_ | refine nilB_i fun b hb => ?_ | refine nP ?_ ?_ | refine nS fun K hK => ?_ | (refine n2 ?_ ?_ <;> intro h <;> first | subst (h : _ = true) | subst (h : _ = false) | skip) | refine And.intro ?_ ?_ | refine nK ‹Imp _ _› ?_) | exact nl | fail
  refine Wp.loopR (fun i : Nat => ⟨[(0, .d (.i most)), (7, .d (.sl (l.map .i))), (8, .d (.i l.length)), (9, .d (.i i))], []⟩) (fun i => l.length - i) (fun i => i ≤ l.length ∧ ∀ t, t < i → l.getD t 0 ≤ most) 0 Weak.lo ⟨by simp, by intro t ht; omega⟩ ?_
  rintro i ⟨hi, hd⟩ K hK
  repeat' first | (with_reducible first | refine nx' ?_ | refine n0 ?_ | refine rD ?_ | refine n1 ?_ | refine nilB_i fun b hb => ?_ | refine nP ?_ ?_ | refine nS fun K hK => ?_ | (refine n2 ?_ ?_ <;> intro h <;> first | subst (h : _ = true) | subst (h : _ = false) | skip) | refine And.intro ?_ ?_ | refine nK ‹Imp _ _› ?_) | exact nl | fail
  · rw [longI_at (by omega) h]
  · exact ⟨i + 1, by omega, ⟨by omega, fun t ht => by rcases (show t < i ∨ t = i by omega) with e | e; exact hd t e; rw [e]; exact h⟩, Weak.lo⟩
  · rw [longI_none fun t ht => hd t (by omega)]
end Go.PL
