/- A plain machine, sound for the given model, and contracts of functions over it, part 37: SR0 AD AH SRa SRb0 FL EB EC. Nothing is assumed. -/
import Derived.Test.YtldgmfplnlnhcaaGreatA6
import Derived.Test.YtldgmfplnlnhcaaGreatG26
import Derived.Test.YtldgmfplnlnhcaaGreatEA
set_option linter.unusedSimpArgs false
set_option linter.unusedVariables false
set_option linter.unusedSectionVars false
/- SR0 -/
namespace Go.PL
open Go Go.Proofs
set_option maxRecDepth 10000
set_option maxHeartbeats 4000000
set_option linter.unusedSimpArgs false
set_option linter.unusedVariables false
theorem digs_one_iff {n : Nat} : digs n = [1] ↔ n = 1 := by
  constructor
  · intro h; rw [← digs_one] at h; exact digs_inj h
  · rintro rfl; exact digs_one
theorem okRat_parts {g : Bool} {u v : List Int} (h : okRat ⟨g, u, v⟩ = true) : ∃ m n, u = digs m ∧ v = digs n ∧ (digs m).length ≤ 40 ∧ (digs n).length ≤ 40 := by
  unfold okRat at h
  simp only [Bool.and_eq_true] at h
  obtain ⟨m, hm, hm2⟩ := okNat_digs h.1.1.1.1
  obtain ⟨n, hn, hn2⟩ := okNat_digs h.1.1.1.2
  exact ⟨m, n, hm, hn, hm2, hn2⟩
theorem okRat_form {r : Rt} (h : okRat r = true) : ∃ m n, r = ⟨r.neg, digs m, digs n⟩ ∧ Nat.gcd m n = 1 ∧ 0 < n ∧ (m = 0 → r.neg = false) ∧ (digs m).length ≤ 40 ∧ (digs n).length ≤ 40 := by
  obtain ⟨g, u, v⟩ := r
  obtain ⟨m, n, rfl, rfl, hm, hn⟩ := okRat_parts h
  rw [okRat_digs hm hn] at h
  simp only [Bool.and_eq_true, Bool.not_eq_true', beq_iff_eq, beq_eq_false_iff_ne, Bool.and_eq_false_iff] at h
  refine ⟨m, n, rfl, h.2, by omega, fun e => ?_, hm, hn⟩
  rcases h.1.2 with h2 | h2
  · exact absurd e h2
  · exact h2
end Go.PL

/- AD -/
namespace Go.PL
open Go Go.Proofs
set_option maxRecDepth 10000
set_option maxHeartbeats 4000000
set_option linter.unusedSimpArgs false
set_option linter.unusedVariables false
abbrev rc0 : Rc := ⟨0, 0, [], ⟨false, [], []⟩⟩
theorem encRc_eq {r : Rc} : encRc r = .agg [.i r.iter, .i r.count, .sl (r.x.map encR), .b r.f.neg, encD r.f.num, encD r.f.den] := rfl
instance : Enc encRc 6 rc0 := ⟨fun _ => rfl, fun x => by simp [D.cells, D.one]⟩
theorem app_Rc {l : List Rc} {a b : Int} {x : List Rt} {g : Bool} {u v : List Int} : l.map encRc ++ [D.agg [.val (.int .i64 a), .val (.int .i64 b), .sl (x.map encR), .val (.bool g), .sl (u.map .i), .sl (v.map .i)]] = (l ++ [(⟨a, b, x, ⟨g, u, v⟩⟩ : Rc)]).map encRc := by simp [encRc]
theorem set_Rc {l : List Rc} {k : Nat} {a b : Int} {x : List Rt} {g : Bool} {u v : List Int} : (l.map encRc).set k (D.agg [.val (.int .i64 a), .val (.int .i64 b), .sl (x.map encR), .val (.bool g), .sl (u.map .i), .sl (v.map .i)]) = (l.set k (⟨a, b, x, ⟨g, u, v⟩⟩ : Rc)).map encRc := by rw [List.map_set]
theorem Rc.eta {r : Rc} : (⟨r.iter, r.count, r.x, r.f⟩ : Rc) = r := rfl
attribute [go_sem] encRc_eq app_Rc set_Rc Rc.eta
def bRcs (l : List Rc) : Prop := l.length ≤ 1048576 ∧ ∀ r ∈ l, bRc r
theorem bRcs.get {l : List Rc} (h : bRcs l) (i : Nat) : bRc (l.getD i rc0) := by
  rw [List.getD]
  cases hi : l[i]? with
  | none => exact ⟨⟨by simp, by simp⟩, by simp, by simp⟩
  | some r => exact h.2 r (List.mem_of_getElem? hi)
def pRcs (l : List Rc) : Prop := l.length < 1152921504606846976 ∧ ∀ r ∈ l, pRc r
theorem pRcs.get {l : List Rc} (h : pRcs l) (i : Nat) : pRc (l.getD i rc0) := by
  rw [List.getD]
  cases hi : l[i]? with
  | none => exact ⟨⟨by simp, by simp⟩, by simp, by simp⟩
  | some r => exact h.2 r (List.mem_of_getElem? hi)
def szRcs (l : List Rc) : Nat := l.length + sumOf szRc l
instance (l : List Rc) (left : Int) : Con CC 15 [.d (.sl (l.map encRc)), .d (.i left)] (rm left ∧ pRcs l) (.d (.i (szL left (szRcs l)))) := by
  constructor; intro ⟨⟨h1, h2⟩, hp⟩
  have h3 := hp.1
  refine Den.pureI Tryz.func15 rfl 2 [.tmp 4] (by kernel_rfl) rfl rfl (by simp only [initE_nil, initE_cons, Nat.reduceAdd]; exact rfl) ?_
  repeat' first | (with_reducible first | refine nx' ?_ | refine n0 ?_ | refine rD ?_ | refine n1 ?_ | refine nilB_i fun b hb => ?_ | refine nP ?_ ?_ | refine nS fun K hK => ?_ | (refine n2 ?_ ?_ <;> intro h <;> first | subst (h : _ = true) | subst (h : _ = false) | skip) | refine And.intro ?_ ?_ | refine nK ‹Imp _ _› ?_) | exact nl | fail
  · rw [show szL left (szRcs l) = -1 by unfold szL szRcs; rw [if_pos (by omega)]]
  refine Wp.loopR (fun i : Nat => ⟨[(0, .d (.sl (l.map encRc))), (1, .d (.i (szL left (l.length + sumOf szRc (l.take i))))), (5, .d (.i i))], []⟩) (fun i => l.length - i) (fun i => i ≤ l.length ∧ 0 ≤ szL left (l.length + sumOf szRc (l.take i))) 0 (Weak.low (by simp -implicitDefEqProofs (disch := omega) only [go_sem, sub_nil, sub_cons, LX, sumOf, szL_pos (left := left) (n := l.length) (by omega)]; try ((repeat' refine And.intro ?_ ?_) <;> first | rfl | trivial | (congr 3; omega) | (congr 1; omega)))) ⟨by simp, by simp only [List.take_zero, sumOf]; rw [szL_pos (by omega)]; omega⟩ ?_
  rintro i ⟨hi, hd⟩ K hK
  have hq := hp.get i
  have hr := szL_rm (left := left) (n := l.length + sumOf szRc (l.take i)) ⟨h1, h2⟩
  by_cases hil : i < l.length
  · have e := sumOf_succ (f := szRc) (l := l) rc0 hil
    have e2 : szL (szL left (l.length + sumOf szRc (l.take i))) (szRc (l.getD i rc0)) = szL left (l.length + sumOf szRc (l.take (i + 1))) := by rw [szL_add, e, Nat.add_assoc]
    repeat' first | (with_reducible first | refine nx' ?_ | refine n0 ?_ | refine rD ?_ | refine n1 ?_ | refine nilB_i fun b hb => ?_ | refine nP ?_ ?_ | refine nS fun K hK => ?_ | (refine n2 ?_ ?_ <;> intro h <;> first | subst (h : _ = true) | subst (h : _ = false) | skip) | refine And.intro ?_ ?_ | refine nK ‹Imp _ _› ?_) | exact nl | fail
    · rw [e2] at h
      rw [show szL left (szRcs l) = -1 from szL_sum h]
    · rw [e2] at h
      exact ⟨i + 1, by omega, ⟨by omega, h⟩, (Weak.low (by simp -implicitDefEqProofs (disch := omega) only [go_sem, sub_nil, sub_cons, LX, e2]; try ((repeat' refine And.intro ?_ ?_) <;> first | rfl | trivial | (congr 3; omega) | (congr 1; omega))))⟩
  · repeat' first | (with_reducible first | refine nx' ?_ | refine n0 ?_ | refine rD ?_ | refine n1 ?_ | refine nilB_i fun b hb => ?_ | refine nP ?_ ?_ | refine nS fun K hK => ?_ | (refine n2 ?_ ?_ <;> intro h <;> first | subst (h : _ = true) | subst (h : _ = false) | skip) | refine And.intro ?_ ?_ | refine nK ‹Imp _ _› ?_) | exact nl | fail
    have : i = l.length := by omega
    subst this
    rw [List.take_length]; rfl
instance (l : List Rc) : Con CC 21 [.d (.sl (l.map encRc))] (bRcs l) (.d (.sl (l.map encRc))) := by
  constructor; intro hb
  have hl0 := hb.1
  refine Den.pureI Tryz.func21 rfl 1 [.tmp 2] (by kernel_rfl) rfl rfl (by simp only [initE_nil, initE_cons, Nat.reduceAdd]; exact rfl) ?_
  repeat' first | (with_reducible first | refine nx' ?_ | refine n0 ?_ | refine rD ?_ | refine n1 ?_ | refine nilB_i fun b hb => ?_ | refine nP ?_ ?_ | refine nS fun K hK => ?_ | (refine n2 ?_ ?_ <;> intro h <;> first | subst (h : _ = true) | subst (h : _ = false) | skip) | refine And.intro ?_ ?_ | refine nK ‹Imp _ _› ?_) | exact nl | fail
  refine Wp.loopR (fun x : Nat × List Rc => ⟨[(0, .d (.sl (l.map encRc))), (3, .msl 0 0 x.2.length), (4, .d (.i x.1))], [.arr 6 (x.2.map encRc) false]⟩) (fun x => l.length - x.1) (fun x => x.1 ≤ l.length ∧ x.2.length = l.length ∧ x.2.take x.1 = l.take x.1) (0, List.replicate l.length rc0)
    (Weak.rep1 (f := encRc) (z := rc0) rfl Weak.lo) ⟨by simp, by simp, by simp⟩ ?_
  rintro ⟨i, o⟩ ⟨hi, hl, hd⟩ K hK
  simp only at hi hl hd ⊢
  have hbi := hb.get i
  repeat' first | (with_reducible first | refine nx' ?_ | refine n0 ?_ | refine rD ?_ | refine n1 ?_ | refine nilB_i fun b hb => ?_ | refine nP ?_ ?_ | refine nS fun K hK => ?_ | (refine n2 ?_ ?_ <;> intro h <;> first | subst (h : _ = true) | subst (h : _ = false) | skip) | refine And.intro ?_ ?_ | refine nK ‹Imp _ _› ?_) | exact nl | fail
  · exact ⟨(i + 1, o.set i (l.getD i rc0)), by simp only; omega, ⟨by simp only; omega, by simp [hl], take_set_succ _ (by omega) hl hd⟩, Weak.lo⟩
  · rw [take_all hl (by omega) hd]
instance (l m : List Rc) : Con CC 30 [.d (.sl (l.map encRc)), .d (.sl (m.map encRc))] (bRcs l ∧ bRcs m) (.d (.b (decide (l = m)))) := by
  constructor; intro ⟨hl, hm⟩
  have hl0 := hl.1
  have hm0 := hm.1
  refine Den.pureI Tryz.func30 rfl 2 [.tmp 4] (by kernel_rfl) rfl rfl (by simp only [initE_nil, initE_cons, Nat.reduceAdd]; exact rfl) ?_
  repeat' first | (with_reducible first | refine nx' ?_ | refine n0 ?_ | refine rD ?_ | refine n1 ?_ | refine nilB_i fun b hb => ?_ | refine nP ?_ ?_ | refine nS fun K hK => ?_ | (refine n2 ?_ ?_ <;> intro h <;> first | subst (h : _ = true) | subst (h : _ = false) | skip) | refine And.intro ?_ ?_ | refine nK ‹Imp _ _› ?_) | exact nl | fail
  · congr 3; rw [eq_comm, decide_eq_false_iff_not]; rintro rfl; exact h rfl
  refine Wp.loopR (fun i : Nat => ⟨[(0, .d (.sl (l.map encRc))), (1, .d (.sl (m.map encRc))), (5, .d (.i i))], []⟩) (fun i => l.length - i) (fun i => i ≤ l.length ∧ l.take i = m.take i) 0 Weak.lo ⟨by simp, by simp⟩ ?_
  rintro i ⟨hi, hd⟩ K hK
  have hb1 := hl.get i
  have hb2 := hm.get i
  repeat' first | (with_reducible first | refine nx' ?_ | refine n0 ?_ | refine rD ?_ | refine n1 ?_ | refine nilB_i fun b hb => ?_ | refine nP ?_ ?_ | refine nS fun K hK => ?_ | (refine n2 ?_ ?_ <;> intro h <;> first | subst (h : _ = true) | subst (h : _ = false) | skip) | refine And.intro ?_ ?_ | refine nK ‹Imp _ _› ?_) | exact nl | fail
  · congr 3; rw [eq_comm, decide_eq_false_iff_not]; exact ne_of_getD h
  · exact ⟨i + 1, by omega, ⟨by omega, take_eq_succ _ (by omega) (by omega) hd h⟩, Weak.lo⟩
  · congr 3; rw [eq_comm, decide_eq_true_eq]; exact take_all (by omega) (by omega) hd

structure Rp where
  status : Int
  recs : List Rc
deriving DecidableEq
abbrev encRp (r : Rp) : D := .agg [.i r.status, .sl (r.recs.map encRc)]
instance (a left : Int) (l : List Rc) : Con CC 5 [.d (.agg [.i a, .sl (l.map encRc)]), .d (.i left)] (rm left ∧ pRcs l) (.d (.i (szL left (szRcs l)))) := by
  constructor; intro ⟨⟨h1, h2⟩, hp⟩
  refine Den.pureI Tryz.func5 rfl 2 [.tmp 4] (by kernel_rfl) rfl rfl (by simp only [initE_nil, initE_cons, Nat.reduceAdd]; exact rfl) ?_
  repeat' first | (with_reducible first | refine nx' ?_ | refine n0 ?_ | refine rD ?_ | refine n1 ?_ | refine nilB_i fun b hb => ?_ | refine nP ?_ ?_ | refine nS fun K hK => ?_ | (refine n2 ?_ ?_ <;> intro h <;> first | subst (h : _ = true) | subst (h : _ = false) | skip) | refine And.intro ?_ ?_ | refine nK ‹Imp _ _› ?_) | exact nl | fail
  rw [szL_neg' h]
instance (a : Int) (l : List Rc) : Con CC 8 [.d (.agg [.i a, .sl (l.map encRc)])] (bRcs l) (.d (encRp ⟨a, l⟩)) := by
  constructor; intro hb
  refine Den.pureI Tryz.func8 rfl 1 [.cell 2 48] (by kernel_rfl) rfl rfl (by simp only [initE_nil, initE_cons, Nat.reduceAdd]; exact rfl) ?_
  repeat' first | (with_reducible first | refine nx' ?_ | refine n0 ?_ | refine rD ?_ | refine n1 ?_ | refine nilB_i fun b hb => ?_ | refine nP ?_ ?_ | refine nS fun K hK => ?_ | (refine n2 ?_ ?_ <;> intro h <;> first | subst (h : _ = true) | subst (h : _ = false) | skip) | refine And.intro ?_ ?_ | refine nK ‹Imp _ _› ?_) | exact nl | fail
instance (a b : Int) (l m : List Rc) : Con CC 11 [.d (.agg [.i a, .sl (l.map encRc)]), .d (.agg [.i b, .sl (m.map encRc)])] (bRcs l ∧ bRcs m) (.d (.b (decide (Rp.mk a l = Rp.mk b m)))) := by
  constructor; intro ⟨hl, hm⟩
  refine Den.pureI Tryz.func11 rfl 2 [.tmp 4] (by kernel_rfl) rfl rfl (by simp only [initE_nil, initE_cons, Nat.reduceAdd]; exact rfl) ?_
  repeat' first | (with_reducible first | refine nx' ?_ | refine n0 ?_ | refine rD ?_ | refine n1 ?_ | refine nilB_i fun b hb => ?_ | refine nP ?_ ?_ | refine nS fun K hK => ?_ | (refine n2 ?_ ?_ <;> intro h <;> first | subst (h : _ = true) | subst (h : _ = false) | skip) | refine And.intro ?_ ?_ | refine nK ‹Imp _ _› ?_) | exact nl | fail
  all_goals (first | (congr 3; simp [*]; done))

/-- What holds of a record of a report, at its place. -/
def okAt (l : List Rc) (t : Nat) : Prop := okRc (l.getD t rc0) = true ∧ (l.getD t rc0).iter = t ∧ (l.getD t rc0).x.length = (l.getD 0 rc0).x.length
instance (l : List Rc) (t : Nat) : Decidable (okAt l t) := by unfold okAt; infer_instance
def okRp (r : Rp) : Bool := decide (1 ≤ r.status ∧ r.status ≤ 6 ∧ r.recs.length ≤ 7 ∧ ∀ t, t < r.recs.length → okAt r.recs t)
theorem okRp_not {a : Int} {l : List Rc} {i : Nat} (hi : i < l.length) (h : ¬okAt l i) : okRp ⟨a, l⟩ = false := by
  unfold okRp; rw [decide_eq_false_iff_not]; exact fun hh => h (hh.2.2.2 i hi)
theorem okRp_all {a : Int} {l : List Rc} (h : ∀ t, t < l.length → okAt l t) : okRp ⟨a, l⟩ = decide (1 ≤ a ∧ a ≤ 6 ∧ l.length ≤ 7) := by
  unfold okRp; rw [decide_eq_decide]; exact ⟨fun hh => ⟨hh.1, hh.2.1, hh.2.2.1⟩, fun hh => ⟨hh.1, hh.2.1, hh.2.2, h⟩⟩
instance (a : Int) (l : List Rc) : Con CC 35 [.d (.agg [.i a, .sl (l.map encRc)])] (bRcs l) (.d (.b (okRp ⟨a, l⟩))) := by
  constructor; intro hb
  have hl0 := hb.1
  have hb0 := hb.get 0
  refine Den.pureI Tryz.func35 rfl 1 [.tmp 2] (by kernel_rfl) rfl rfl (by simp only [initE_nil, initE_cons, Nat.reduceAdd]; exact rfl) ?_
  repeat' first | (with_reducible first | refine nx' ?_ | refine n0 ?_ | refine Wp.drawR (by decide +kernel) ?_ | refine Wp.drawSR [] [false, false, false, false, false, false, false, false, false, false, false, false, false, false, false, false, false, false, false, false, false] .done (by decide +kernel) ?_ | refine n1 ?_ | refine nilB_i fun b hb => ?_ | refine nP ?_ ?_ | refine nS fun K hK => ?_ | (refine n2 ?_ ?_ <;> intro h <;> first | subst (h : _ = true) | subst (h : _ = false) | skip) | refine And.intro ?_ ?_ | refine nK ‹Imp _ _› ?_) | exact nl | fail
  refine Wp.loopR (fun i : Nat => ⟨[(1, .ref 0 0 0), (3, .d (.i i))], [.var [.d (.i a), .d (.sl (l.map encRc))] false]⟩) (fun i => l.length - i) (fun i => i ≤ l.length ∧ ∀ t, t < i → okAt l t) 0 Weak.lo ⟨by simp, by intro t ht; omega⟩ ?_
  rintro i ⟨hi, hd⟩ K hK
  have hbi := hb.get i
  obtain ⟨hbx, _⟩ := id hbi
  have hbl := hbx.1
  have hbl0 := hb0.1.1
  repeat' first | (with_reducible first | refine nx' ?_ | refine n0 ?_ | refine Wp.drawR (by decide +kernel) ?_ | refine Wp.drawSR [] [false, false, false, false, false, false, false, false, false, false, false, false, false, false, false, false, false, false, false, false, false] .done (by decide +kernel) ?_ | refine n1 ?_ | refine nilB_i fun b hb => ?_ | refine nP ?_ ?_ | refine nS fun K hK => ?_ | (refine n2 ?_ ?_ <;> intro h <;> first | subst (h : _ = true) | subst (h : _ = false) | skip) | refine And.intro ?_ ?_ | refine nK ‹Imp _ _› ?_) | exact nl | fail
  · rw [okRp_not (i := i) (by omega) (fun hh => by have := hh.1; rw [h] at this; cases this)]
  · rw [okRp_not (i := i) (by omega) (fun hh => h hh.2.1)]
  · rw [okRp_not (i := i) (by omega) (fun hh => h (by rw [hh.2.2]))]
  · exact ⟨i + 1, by omega, ⟨by omega, fun t ht => by rcases (show t < i ∨ t = i by omega) with e | e; exact hd t e; rw [e]; exact ⟨by assumption, by assumption, by omega⟩⟩, Weak.cu⟩
  · obtain rfl : i = l.length := by omega
    rw [okRp_all hd]; congr 3; rw [decide_eq_decide]; omega
  · obtain rfl : i = l.length := by omega
    rw [okRp_all hd]; congr 3; rw [eq_comm, decide_eq_false_iff_not]; omega
instance (a : Int) (l : List Rc) : Con CC 78 [.d (.agg [.i a, .sl (l.map encRc)])] (bRcs l) (.d (.b (okRp ⟨a, l⟩))) := by
  constructor; intro hb
  have hl0 := hb.1
  have hb0 := hb.get 0
  refine Den.pureI Tryz.func78 rfl 1 [.tmp 2] (by kernel_rfl) rfl rfl (by simp only [initE_nil, initE_cons, Nat.reduceAdd]; exact rfl) ?_
  repeat' first | (with_reducible first | refine nx' ?_ | refine n0 ?_ | refine Wp.drawR (by decide +kernel) ?_ | refine Wp.drawSR [] [false, false, false, false, false, false, false, false, false, false, false, false, false, false, false, false, false, false, false, false, false] .done (by decide +kernel) ?_ | refine n1 ?_ | refine nilB_i fun b hb => ?_ | refine nP ?_ ?_ | refine nS fun K hK => ?_ | (refine n2 ?_ ?_ <;> intro h <;> first | subst (h : _ = true) | subst (h : _ = false) | skip) | refine And.intro ?_ ?_ | refine nK ‹Imp _ _› ?_) | exact nl | fail
  · unfold okRp; congr 3; rw [eq_comm, decide_eq_false_iff_not]; simp only; omega
  · unfold okRp; congr 3; rw [eq_comm, decide_eq_false_iff_not]; simp only; omega
  refine Wp.loopR (fun i : Nat => ⟨[(1, .ref 0 0 0), (16, .d (.sl (l.map encRc))), (17, .d (.i l.length)), (18, .d (.i i))], [.var [.d (.i a), .d (.sl (l.map encRc))] false]⟩) (fun i => l.length - i) (fun i => i ≤ l.length ∧ ∀ t, t < i → okAt l t) 0 Weak.lo ⟨by simp, by intro t ht; omega⟩ ?_
  rintro i ⟨hi, hd⟩ K hK
  have hbi := hb.get i
  obtain ⟨hbx, _⟩ := id hbi
  have hbl := hbx.1
  have hbl0 := hb0.1.1
  repeat' first | (with_reducible first | refine nx' ?_ | refine n0 ?_ | refine Wp.drawR (by decide +kernel) ?_ | refine Wp.drawSR [] [false, false, false, false, false, false, false, false, false, false, false, false, false, false, false, false, false, false, false, false, false] .done (by decide +kernel) ?_ | refine n1 ?_ | refine nilB_i fun b hb => ?_ | refine nP ?_ ?_ | refine nS fun K hK => ?_ | (refine n2 ?_ ?_ <;> intro h <;> first | subst (h : _ = true) | subst (h : _ = false) | skip) | refine And.intro ?_ ?_ | refine nK ‹Imp _ _› ?_) | exact nl | fail
  · rw [okRp_not (i := i) (by omega) (fun hh => by have := hh.1; rw [h] at this; cases this)]
  · rw [okRp_not (i := i) (by omega) (fun hh => h hh.2.1)]
  · rw [okRp_not (i := i) (by omega) (fun hh => h (by rw [hh.2.2]))]
  · exact ⟨i + 1, by omega, ⟨by omega, fun t ht => by rcases (show t < i ∨ t = i by omega) with e | e; exact hd t e; rw [e]; exact ⟨by assumption, by assumption, by omega⟩⟩, Weak.cu⟩
  · obtain rfl : i = l.length := by omega
    rw [okRp_all hd]; congr 3; rw [eq_comm, decide_eq_true_eq]; omega
theorem bRcs_of {l : List Rc} (h : 0 ≤ szL 1048576 (szRcs l)) : bRcs l := by
  have := szL_le h
  unfold szRcs at this
  refine ⟨by omega, fun r hr => ?_⟩
  have h2 := sumOf_mem (f := szRc) hr
  rw [show szRc r = szV r.x + (r.f.num.length + r.f.den.length) from rfl] at h2
  exact ⟨bV_of (by omega), by omega, by omega⟩
end Go.PL

/- AH -/
namespace Go.PL
open Go Go.Proofs
set_option maxRecDepth 10000
set_option maxHeartbeats 4000000
set_option linter.unusedSimpArgs false
set_option linter.unusedVariables false
def toQ (r : Rt) : Q := ⟨r.neg, (val r.num).toNat, (val r.den).toNat⟩
theorem okRat_toQ {r : Rt} (h : okRat r = true) : r.num = digs (toQ r).n ∧ r.den = digs (toQ r).d ∧ lenQ 40 (toQ r) := by
  unfold okRat at h
  simp only [Bool.and_eq_true, Bool.not_eq_true'] at h
  obtain ⟨m, h1, h2⟩ := okNat_digs (a := r.num) (by simp_all)
  obtain ⟨n, h3, h4⟩ := okNat_digs (a := r.den) (by simp_all)
  have e1 : (toQ r).n = m := by unfold toQ; simp only; rw [h1, val_digs]; rfl
  have e2 : (toQ r).d = n := by unfold toQ; simp only; rw [h3, val_digs]; rfl
  refine ⟨by rw [e1]; exact h1, by rw [e2]; exact h3, by rw [e1]; exact h2, by rw [e2]; exact h4, ?_⟩
  rw [e2]
  rcases Nat.eq_zero_or_pos n with e | e
  · exfalso
    rw [e, digs_zero] at h3
    simp_all
  · exact e
def dropAt (l : List Rc) (t : Nat) : Prop := cmpQ (toQ (l.getD (t + 1) rc0).f) (toQ (l.getD t rc0).f) < 0
instance (l : List Rc) (t : Nat) : Decidable (dropAt l t) := by unfold dropAt; infer_instance
def dropsR (l : List Rc) : Bool := decide (∀ t, t < l.length - 1 → dropAt l t)
theorem lenQ.mono {L M : Nat} {q : Q} (h : lenQ L q) (hM : L ≤ M) : lenQ M q := ⟨Nat.le_trans h.1 hM, Nat.le_trans h.2.1 hM, h.2.2⟩
theorem dropsR_not {l : List Rc} {i : Nat} (hi : i + 1 < l.length) (h : ¬dropAt l i) : dropsR l = false := by
  unfold dropsR; rw [decide_eq_false_iff_not]; exact fun hh => h (hh i (by omega))
theorem dropsR_all {l : List Rc} (h : ∀ t, t < l.length - 1 → dropAt l t) : dropsR l = true := by
  unfold dropsR; rw [decide_eq_true_eq]; exact h
instance (a : Int) (l : List Rc) : Con CC 40 [.d (.agg [.i a, .sl (l.map encRc)])] (bRcs l ∧ ∀ t, t < l.length → okRat (l.getD t rc0).f = true) (.d (.b (dropsR l))) := by
  constructor; intro ⟨hb, hk⟩
  have hl0 := hb.1
  refine Den.pureI Tryz.func40 rfl 1 [.tmp 2] (by kernel_rfl) rfl rfl (by simp only [initE_nil, initE_cons, Nat.reduceAdd]; exact rfl) ?_
  repeat' first | (with_reducible first | refine nx' ?_ | refine n0 ?_ | refine rD ?_ | refine n1 ?_ | refine nilB_i fun b hb => ?_ | refine nP ?_ ?_ | refine nS fun K hK => ?_ | (refine n2 ?_ ?_ <;> intro h <;> first | subst (h : _ = true) | subst (h : _ = false) | skip) | refine And.intro ?_ ?_ | refine nK ‹Imp _ _› ?_) | exact nl | fail
  refine Wp.loopR (fun i : Nat => ⟨[(1, .ref 0 0 0), (3, .d (.i i))], [.var [.d (.i a), .d (.sl (l.map encRc))] false]⟩) (fun i => l.length - i) (fun i => ∀ t, t < i → t < l.length - 1 ∧ dropAt l t) 0 Weak.lo (by intro t ht; omega) ?_
  rintro i hd K hK
  have hi : i ≤ 1048576 := by
    rcases Nat.eq_zero_or_pos i with h | h
    · omega
    · have := (hd (i - 1) (by omega)).1; omega
  by_cases hil : i + 1 < l.length
  · obtain ⟨p1, p2, p3⟩ := okRat_toQ (hk i (by omega))
    obtain ⟨q1, q2, q3⟩ := okRat_toQ (hk (i + 1) hil)
    have hi1 : ((i : Int) + 1).toNat = i + 1 := by omega
    have hn1 : (l.getD i rc0).f.neg = (toQ (l.getD i rc0).f).neg := rfl
    have hn2 : (l.getD (i + 1) rc0).f.neg = (toQ (l.getD (i + 1) rc0).f).neg := rfl
    repeat' first | (with_reducible first | refine nx' ?_ (by simp -implicitDefEqProofs (disch := omega) only [go_sem, hi1, p1, p2, q1, q2]; exact rfl) | refine n0 ?_ | refine rD ?_ | refine n1 ?_ | refine nilB_i fun b hb => ?_ | refine nP ?_ ?_ | refine nS fun K hK => ?_ | (refine n2 ?_ ?_ <;> intro h <;> first | subst (h : _ = true) | subst (h : _ = false) | (simp only [FX, LX, hi1, p1, p2, q1, q2] at h) | skip) | refine And.intro ?_ ?_ | refine nK ‹Imp _ _› ?_) | exact nl | fail
    · exact q3.mono (by omega)
    · exact p3.mono (by omega)
    · rw [dropsR_not hil (fun hh => absurd (show cmpQ _ _ < 0 from hh) (Int.not_lt.2 h))]
    · exact ⟨i + 1, by omega, fun t ht => by rcases (show t < i ∨ t = i by omega) with e | e; exact hd t e; rw [e]; exact ⟨by omega, h⟩, Weak.lo⟩
  · repeat' first | (with_reducible first | refine nx' ?_ | refine n0 ?_ | refine rD ?_ | refine n1 ?_ | refine nilB_i fun b hb => ?_ | refine nP ?_ ?_ | refine nS fun K hK => ?_ | (refine n2 ?_ ?_ <;> intro h <;> first | subst (h : _ = true) | subst (h : _ = false) | skip) | refine And.intro ?_ ?_ | refine nK ‹Imp _ _› ?_) | exact nl | fail
    rw [dropsR_all fun t ht => (hd t (by omega)).2]
instance (a : Int) (l : List Rc) : Con CC 25 [.d (.agg [.i a, .sl (l.map encRc)])] (bRcs l ∧ ∀ t, t < l.length → okRat (l.getD t rc0).f = true) (.d (.b (dropsR l))) := by
  constructor; intro ⟨hb, hk⟩
  have hl0 := hb.1
  refine Den.pureI Tryz.func25 rfl 1 [.tmp 2] (by kernel_rfl) rfl rfl (by simp only [initE_nil, initE_cons, Nat.reduceAdd]; exact rfl) ?_
  repeat' first | (with_reducible first | refine nx' ?_ | refine n0 ?_ | refine rD ?_ | refine n1 ?_ | refine nilB_i fun b hb => ?_ | refine nP ?_ ?_ | refine nS fun K hK => ?_ | (refine n2 ?_ ?_ <;> intro h <;> first | subst (h : _ = true) | subst (h : _ = false) | skip) | refine And.intro ?_ ?_ | refine nK ‹Imp _ _› ?_) | exact nl | fail
  refine Wp.loopR (fun i : Nat => ⟨[(1, .ref 0 0 0), (6, .d (.sl (l.map encRc))), (7, .d (.i l.length)), (8, .d (.i i))], [.var [.d (.i a), .d (.sl (l.map encRc))] false]⟩) (fun i => l.length - i) (fun i => i ≤ l.length ∧ ∀ t, t + 1 < i → dropAt l t) 0 Weak.lo ⟨by omega, by intro t ht; omega⟩ ?_
  rintro i ⟨hi, hd⟩ K hK
  by_cases hil : i < l.length
  · rcases i with _ | j
    · repeat' first | (with_reducible first | refine nx' ?_ | refine n0 ?_ | refine rD ?_ | refine n1 ?_ | refine nilB_i fun b hb => ?_ | refine nP ?_ ?_ | refine nS fun K hK => ?_ | (refine n2 ?_ ?_ <;> intro h <;> first | subst (h : _ = true) | subst (h : _ = false) | skip) | refine And.intro ?_ ?_ | refine nK ‹Imp _ _› ?_) | exact nl | fail
      exact ⟨1, by omega, ⟨by omega, by intro t ht; omega⟩, Weak.cu⟩
    · obtain ⟨p1, p2, p3⟩ := okRat_toQ (hk j (by omega))
      obtain ⟨q1, q2, q3⟩ := okRat_toQ (hk (j + 1) hil)
      have e1 : (((j + 1 : Nat) : Int) - 1).toNat = j := by omega
      have hc := cmpI_nonneg (a := toQ (l.getD (j + 1) rc0).f) (b := toQ (l.getD j rc0).f) q3.2.2 p3.2.2
      repeat' first | (with_reducible first | refine nx' ?_ (by simp -implicitDefEqProofs (disch := omega) only [go_sem, e1, p1, p2, q1, q2]; exact rfl) | refine n0 ?_ | refine rD ?_ | refine n1 ?_ | refine nilB_i fun b hb => ?_ | refine nP ?_ ?_ | refine nS fun K hK => ?_ | (refine n2 ?_ ?_ <;> intro h <;> first | subst (h : _ = true) | subst (h : _ = false) | (simp only [FX, LX, e1, p1, p2, q1, q2] at h) | skip) | refine And.intro ?_ ?_ | refine nK ‹Imp _ _› ?_) | exact nl | fail
      · exact q3.mono (by omega)
      · exact p3.mono (by omega)
      · rw [dropsR_not hil (fun hh => absurd (show cmpQ _ _ < 0 from hh) (Int.not_lt.2 (hc.1 h)))]
      · have hd2 : dropAt l j := Int.not_le.1 (fun hh => absurd (hc.2 hh) (Int.not_le.2 h))
        exact ⟨j + 2, by omega, ⟨by omega, fun t ht => by rcases (show t + 1 < j + 1 ∨ t = j by omega) with e | e; exact hd t e; rw [e]; exact hd2⟩, Weak.cu⟩
  · repeat' first | (with_reducible first | refine nx' ?_ | refine n0 ?_ | refine rD ?_ | refine n1 ?_ | refine nilB_i fun b hb => ?_ | refine nP ?_ ?_ | refine nS fun K hK => ?_ | (refine n2 ?_ ?_ <;> intro h <;> first | subst (h : _ = true) | subst (h : _ = false) | skip) | refine And.intro ?_ ?_ | refine nK ‹Imp _ _› ?_) | exact nl | fail
    rw [dropsR_all fun t ht => hd t (by omega)]
theorem okRp_rats {a : Int} {l : List Rc} (h : okRp ⟨a, l⟩ = true) : ∀ t, t < l.length → okRat (l.getD t rc0).f = true := by
  intro t ht
  unfold okRp at h
  rw [decide_eq_true_eq] at h
  have h1 := (h.2.2.2 t ht).1
  unfold okRc at h1
  simp only [Bool.and_eq_true] at h1
  exact h1.2
instance (a : Int) (l : List Rc) : Con CC 47 [.d (.agg [.i a, .sl (l.map encRc)])] (bRcs l) (.d (.i (if okRp ⟨a, l⟩ then 0 else 1))) := by
  constructor; intro hb
  refine Den.pureI Tryz.func47 rfl 1 [.tmp 2] (by kernel_rfl) rfl rfl (by simp only [initE_nil, initE_cons, Nat.reduceAdd]; exact rfl) ?_
  repeat' first | (with_reducible first | refine nx' ?_ | refine n0 ?_ | refine rD ?_ | refine n1 ?_ | refine nilB_i fun b hb => ?_ | refine nP ?_ ?_ | refine nS fun K hK => ?_ | (refine n2 ?_ ?_ <;> intro h <;> first | subst (h : _ = true) | subst (h : _ = false) | skip) | refine And.intro ?_ ?_ | refine nK ‹Imp _ _› ?_) | exact nl | fail
end Go.PL

/- SRa -/
namespace Go.PL
open Go Go.Proofs
set_option maxRecDepth 10000
set_option maxHeartbeats 4000000
set_option linter.unusedSimpArgs false
set_option linter.unusedVariables false
abbrev rt0 : Rt := ⟨false, [], []⟩
theorem okVec_parts {l : List Rt} (h : okVec l = true) : l.length ≤ 4 ∧ ∀ r ∈ l, okRat r = true := by
  unfold okVec at h
  rw [decide_eq_true_eq] at h
  refine ⟨h.2.1, fun r hr => ?_⟩
  obtain ⟨i, hi, rfl⟩ := List.getElem_of_mem hr
  have := h.2.2 i hi
  simpa only [List.getD, List.getElem?_eq_getElem hi, Option.getD_some] using this
theorem okVec_ne {l : List Rt} (h : okVec l = true) : l ≠ [] := by
  rintro rfl; unfold okVec at h; simp at h
end Go.PL

/- SRb0 -/
namespace Go.PL
open Go Go.Proofs
set_option maxRecDepth 10000
set_option maxHeartbeats 4000000
set_option linter.unusedSimpArgs false
set_option linter.unusedVariables false
theorem cmpQ_zero {r s : Rt} (hr : okRat r = true) (hs : okRat s = true) : cmpQ (toQ r) (toQ s) = 0 ↔ r = s := by
  obtain ⟨m, n, e1, g1, p1, z1, _, _⟩ := okRat_form hr
  obtain ⟨u, v, e2, g2, p2, z2, _, _⟩ := okRat_form hs
  constructor
  · intro h
    have t1 : toQ r = ⟨r.neg, m, n⟩ := by rw [e1]; simp [toQ, val_digs]
    have t2 : toQ s = ⟨s.neg, u, v⟩ := by rw [e2]; simp [toQ, val_digs]
    rw [t1, t2] at h
    unfold cmpQ at h
    rw [Int.sign_eq_zero_iff_zero] at h
    simp only at h
    have hk : m * v = u * n := by
      unfold sg at h
      generalize m * v = p at *
      generalize u * n = q at *
      revert h; cases r.neg <;> cases s.neg <;> simp <;> omega
    have hd : n = v := by
      refine Nat.dvd_antisymm ?_ ?_
      · exact (Nat.Coprime.dvd_of_dvd_mul_left (k := n) (m := m) (n := v) (by rw [Nat.coprime_comm]; exact g1) ⟨u, by rw [hk, Nat.mul_comm]⟩)
      · exact (Nat.Coprime.dvd_of_dvd_mul_left (k := v) (m := u) (n := n) (by rw [Nat.coprime_comm]; exact g2) ⟨m, by rw [← hk, Nat.mul_comm]⟩)
    have hm : m = u := by rw [hd] at hk; exact Nat.eq_of_mul_eq_mul_right (by omega) hk
    have hn : r.neg = s.neg := by
      rw [← hm, ← hd] at h
      rcases Nat.eq_zero_or_pos m with e | e
      · rw [z1 e, z2 (by omega)]
      · have hp := Nat.mul_pos e p1
        unfold sg at h
        generalize m * n = p at *
        revert h; cases r.neg <;> cases s.neg <;> simp <;> omega
    rw [e1, e2, hn, hm, hd]
  · rintro rfl
    unfold cmpQ; simp
theorem bV_bnd {l : List Rt} (h : okVec l = true) : l.length ≤ 4 := (okVec_parts h).1
instance (x y : List Rt) : Con CC 39 [.d (.sl (x.map encR)), .d (.sl (y.map encR))] (okVec x = true ∧ okVec y = true) (.d (.b (decide (x = y)))) := by
  constructor; intro ⟨hx, hy⟩
  obtain ⟨x1, x2⟩ := okVec_parts hx
  obtain ⟨y1, y2⟩ := okVec_parts hy
  refine Den.pureI Tryz.func39 rfl 2 [.tmp 4] (by kernel_rfl) rfl rfl (by simp only [initE_nil, initE_cons, Nat.reduceAdd]; exact rfl) ?_
  repeat' first | (with_reducible first | refine nx' ?_ | refine n0 ?_ | refine rD ?_ | refine n1 ?_ | refine nilB_i fun b hb => ?_ | refine nP ?_ ?_ | refine nS fun K hK => ?_ | (refine n2 ?_ ?_ <;> intro h <;> first | subst (h : _ = true) | subst (h : _ = false) | skip) | refine And.intro ?_ ?_ | refine nK ‹Imp _ _› ?_) | exact nl | fail
  · congr 3; rw [eq_comm, decide_eq_false_iff_not]; rintro rfl; exact h rfl
  refine Wp.loopR (fun i : Nat => ⟨[(0, .d (.sl (x.map encR))), (1, .d (.sl (y.map encR))), (5, .d (.i i))], []⟩) (fun i => x.length - i) (fun i => i ≤ x.length ∧ x.take i = y.take i) 0 Weak.lo ⟨by simp, by simp⟩ ?_
  rintro i ⟨hi, hd⟩ K hK
  by_cases hil : i < x.length
  · have kx := x2 _ (getD_mem rt0 hil)
    have ky := y2 _ (getD_mem rt0 (show i < y.length by omega))
    obtain ⟨p1, p2, p3⟩ := okRat_toQ kx
    obtain ⟨q1, q2, q3⟩ := okRat_toQ ky
    have hn1 : (x.getD i rt0).neg = (toQ (x.getD i rt0)).neg := rfl
    have hn2 : (y.getD i rt0).neg = (toQ (y.getD i rt0)).neg := rfl
    have hz := cmpQ_zero kx ky
    repeat' first | (with_reducible first | refine nx' ?_ (by simp -implicitDefEqProofs (disch := omega) only [go_sem, p1, p2, q1, q2]; exact rfl) | refine n0 ?_ | refine rD ?_ | refine n1 ?_ | refine nilB_i fun b hb => ?_ | refine nP ?_ ?_ | refine nS fun K hK => ?_ | (refine n2 ?_ ?_ <;> intro h <;> first | subst (h : _ = true) | subst (h : _ = false) | (simp only [FX, LX, p1, p2, q1, q2] at h) | skip) | refine And.intro ?_ ?_ | refine nK ‹Imp _ _› ?_) | exact nl | fail
    · exact p3.mono (by omega)
    · exact q3.mono (by omega)
    · congr 3; rw [eq_comm, decide_eq_false_iff_not]; exact ne_of_getD (d := rt0) (fun e => h (hz.2 e))
    · exact ⟨i + 1, by omega, ⟨by omega, take_eq_succ rt0 (by omega) (by omega) hd (hz.1 h)⟩, Weak.lo⟩
  · repeat' first | (with_reducible first | refine nx' ?_ | refine n0 ?_ | refine rD ?_ | refine n1 ?_ | refine nilB_i fun b hb => ?_ | refine nP ?_ ?_ | refine nS fun K hK => ?_ | (refine n2 ?_ ?_ <;> intro h <;> first | subst (h : _ = true) | subst (h : _ = false) | skip) | refine And.intro ?_ ?_ | refine nK ‹Imp _ _› ?_) | exact nl | fail
    congr 3; rw [eq_comm, decide_eq_true_eq]; exact take_all (by omega) (by omega) hd
theorem cmpS_c {r s : Rt} (hr : okRat r = true) (hs : okRat s = true) : CC 37 [.d (encR r), .d (encR s)] [] (.d (.i (cmpQ (toQ r) (toQ s)))) [] := by
  obtain ⟨p1, p2, p3⟩ := okRat_toQ hr
  obtain ⟨q1, q2, q3⟩ := okRat_toQ hs
  have e1 : encR r = .agg [.b (toQ r).neg, encD (digs (toQ r).n), encD (digs (toQ r).d)] := by rw [← p1, ← p2]; rfl
  have e2 : encR s = .agg [.b (toQ s).neg, encD (digs (toQ s).n), encD (digs (toQ s).d)] := by rw [← q1, ← q2]; rfl
  rw [e1, e2]
  exact Con.ok (C := CC) ⟨p3.mono (by omega), q3.mono (by omega)⟩
end Go.PL

/- FL -/
namespace Go.PL
open Go Go.Proofs
set_option maxRecDepth 10000
set_option maxHeartbeats 4000000
set_option linter.unusedSimpArgs false
set_option linter.unusedVariables false
def firstI : List Int → Int
  | [] => 0
  | c :: r => if c = 0 then firstI r else c
theorem firstI_at : ∀ (l : List Int) (i : Nat), i < l.length → (∀ t, t < i → l.getD t 0 = 0) → l.getD i 0 ≠ 0 → firstI l = l.getD i 0
  | [], i, h, _, _ => by simp at h
  | c :: r, 0, _, _, h => by simp only [firstI]; rw [if_neg (by simpa using h)]; rfl
  | c :: r, i + 1, h, hn, hp => by
    have h0 : c = 0 := by simpa using hn 0 (by omega)
    simp only [firstI]
    rw [if_pos h0, firstI_at r i (by simpa using h) (fun t ht => by simpa using hn (t + 1) (by omega)) (by simpa using hp)]; simp
theorem firstI_none : ∀ (l : List Int), (∀ t, t < l.length → l.getD t 0 = 0) → firstI l = 0
  | [], _ => rfl
  | c :: r, h => by
    have h0 : c = 0 := by simpa using h 0 (by simp)
    simp only [firstI]
    rw [if_pos h0, firstI_none r fun t ht => by simpa using h (t + 1) (by simpa using ht)]
instance (l : List Int) : Con CC 45 [.d (.sl (l.map .i))] (l.length ≤ 1048576) (.d (.i (firstI l))) := by
  constructor; intro hl
  refine Den.pureI Tryz.func45 rfl 1 [.tmp 2] (by kernel_rfl) rfl rfl (by simp only [initE_nil, initE_cons, Nat.reduceAdd]; exact rfl) ?_
  repeat' first | (with_reducible first | refine nx' ?_ | refine n0 ?_ | refine rD ?_ | refine n1 ?_ | refine nilB_i fun b hb => ?_ | refine nP ?_ ?_ | refine nS fun K hK => ?_ | (refine n2 ?_ ?_ <;> intro h <;> first | subst (h : _ = true) | subst (h : _ = false) | skip) | refine And.intro ?_ ?_ | refine nK ‹Imp _ _› ?_) | exact nl | fail
  refine Wp.loopR (fun i : Nat => ⟨[(5, .d (.sl (l.map .i))), (6, .d (.i l.length)), (7, .d (.i i))], []⟩) (fun i => l.length - i) (fun i => i ≤ l.length ∧ ∀ t, t < i → l.getD t 0 = 0) 0 Weak.lo ⟨by simp, by intro t ht; omega⟩ ?_
  rintro i ⟨hi, hd⟩ K hK
  repeat' first | (with_reducible first | refine nx' ?_ | refine n0 ?_ | refine rD ?_ | refine n1 ?_ | refine nilB_i fun b hb => ?_ | refine nP ?_ ?_ | refine nS fun K hK => ?_ | (refine n2 ?_ ?_ <;> intro h <;> first | subst (h : _ = true) | subst (h : _ = false) | skip) | refine And.intro ?_ ?_ | refine nK ‹Imp _ _› ?_) | exact nl | fail
  · rw [firstI_at l i (by omega) hd h]
  · exact ⟨i + 1, by omega, ⟨by omega, fun t ht => by rcases (show t < i ∨ t = i by omega) with e | e; exact hd t e; rw [e]; exact h⟩, Weak.lo⟩
  · rw [firstI_none l fun t ht => hd t (by omega)]
def longI (most : Int) (l : List Int) : Int := if l.any fun n => decide (most < n) then 2 else 0
theorem longI_at {most : Int} {l : List Int} {i : Nat} (h : i < l.length) (hp : most < l.getD i 0) : longI most l = 2 := by
  unfold longI; rw [if_pos]; rw [List.any_eq_true]; exact ⟨_, getD_mem 0 h, by simpa using hp⟩
theorem longI_none {most : Int} {l : List Int} (h : ∀ t, t < l.length → l.getD t 0 ≤ most) : longI most l = 0 := by
  unfold longI; rw [if_neg]; rw [List.any_eq_true]; rintro ⟨x, hx, hp⟩
  obtain ⟨i, hi, rfl⟩ := List.getElem_of_mem hx
  have := h i hi
  simp only [List.getD, List.getElem?_eq_getElem hi, Option.getD_some] at this
  simp only [decide_eq_true_eq] at hp
  omega
instance (most : Int) (l : List Int) : Con CC 153 [.d (.i most), .d (.sl (l.map .i))] (l.length ≤ 1048576) (.d (.i (longI most l))) := by
  constructor; intro hl
  refine Den.pureI Tryz.func153 rfl 2 [.tmp 4] (by kernel_rfl) rfl rfl (by simp only [initE_nil, initE_cons, Nat.reduceAdd]; exact rfl) ?_
  repeat' first | (with_reducible first | refine nx' ?_ | refine n0 ?_ | refine rD ?_ | refine n1 ?_ | refine nilB_i fun b hb => ?_ | refine nP ?_ ?_ | refine nS fun K hK => ?_ | (refine n2 ?_ ?_ <;> intro h <;> first | subst (h : _ = true) | subst (h : _ = false) | skip) | refine And.intro ?_ ?_ | refine nK ‹Imp _ _› ?_) | exact nl | fail
  refine Wp.loopR (fun i : Nat => ⟨[(0, .d (.i most)), (7, .d (.sl (l.map .i))), (8, .d (.i l.length)), (9, .d (.i i))], []⟩) (fun i => l.length - i) (fun i => i ≤ l.length ∧ ∀ t, t < i → l.getD t 0 ≤ most) 0 Weak.lo ⟨by simp, by intro t ht; omega⟩ ?_
  rintro i ⟨hi, hd⟩ K hK
  repeat' first | (with_reducible first | refine nx' ?_ | refine n0 ?_ | refine rD ?_ | refine n1 ?_ | refine nilB_i fun b hb => ?_ | refine nP ?_ ?_ | refine nS fun K hK => ?_ | (refine n2 ?_ ?_ <;> intro h <;> first | subst (h : _ = true) | subst (h : _ = false) | skip) | refine And.intro ?_ ?_ | refine nK ‹Imp _ _› ?_) | exact nl | fail
  · rw [longI_at (by omega) h]
  · exact ⟨i + 1, by omega, ⟨by omega, fun t ht => by rcases (show t < i ∨ t = i by omega) with e | e; exact hd t e; rw [e]; exact h⟩, Weak.lo⟩
  · rw [longI_none fun t ht => hd t (by omega)]
end Go.PL

/- EB -/
namespace Go.PL
open Go Go.Proofs
set_option maxRecDepth 10000
set_option maxHeartbeats 4000000
set_option linter.unusedSimpArgs false
set_option linter.unusedVariables false
/-- Where a node's tree begins and how deep it is, from those before it. -/
def nstep (bg dp : List Int) (i : Nat) (x : Nd) : Option (Int × Int) :=
  if plOk x i = true then
    if kidsN x.op = 1 then (if x.a = (i : Int) - 1 then some (bg.getD x.a.toNat 0, dp.getD x.a.toNat 0 + 1) else none)
    else if kidsN x.op = 2 then (if x.b = (i : Int) - 1 ∧ x.a = bg.getD x.b.toNat 0 - 1 then some (bg.getD x.a.toNat 0, max (dp.getD x.a.toNat 0) (dp.getD x.b.toNat 0) + 1) else none)
    else some ((i : Int), 1)
  else none
def shp (l : List Nd) : Nat → Option (List Int × List Int)
  | 0 => some ([], [])
  | i + 1 => match shp l i with
    | none => none
    | some (bg, dp) => match nstep bg dp i (l.getD i nd0) with
      | none => none
      | some (b, d) => some (bg ++ [b], dp ++ [d])
theorem shp_succ {l : List Nd} {i : Nat} {bg dp : List Int} (h : shp l i = some (bg, dp)) : shp l (i + 1) = match nstep bg dp i (l.getD i nd0) with
      | none => none
      | some (b, d) => some (bg ++ [b], dp ++ [d]) := by
  rw [shp, h]
theorem plOk_kids {x : Nd} {p : Int} (h : plOk x p = true) : (0 < kidsN x.op → 0 ≤ x.a ∧ x.a ≤ p - 1) ∧ (1 < kidsN x.op → 0 ≤ x.b ∧ x.b ≤ p - 1) := by
  unfold plOk chOk at h
  simp only [Bool.and_eq_true] at h
  refine ⟨fun h1 => ?_, fun h1 => ?_⟩
  · have := h.1.2
    rw [if_pos (by simpa using h1)] at this
    simpa using this
  · have := h.2
    rw [if_pos (by simpa using h1)] at this
    simpa using this
theorem getD_app {a b : List Int} {k : Nat} (h : k < a.length) : (a ++ b).getD k 0 = a.getD k 0 := by
  simp [List.getD, List.getElem?_append_left h]
theorem nstep_app {bg dp b d : List Int} {i : Nat} {x : Nd} (h1 : i ≤ bg.length) (h2 : i ≤ dp.length) : nstep (bg ++ b) (dp ++ d) i x = nstep bg dp i x := by
  unfold nstep
  by_cases hp : plOk x i = true
  · obtain ⟨ha, hb⟩ := plOk_kids hp
    rw [if_pos hp, if_pos hp]
    by_cases k1 : kidsN x.op = 1
    · have := ha (by omega)
      rw [if_pos k1, if_pos k1, getD_app (by omega), getD_app (by omega)]
    · rw [if_neg k1, if_neg k1]
      by_cases k2 : kidsN x.op = 2
      · have := ha (by omega)
        have := hb (by omega)
        rw [if_pos k2, if_pos k2, getD_app (a := bg) (by omega), getD_app (a := bg) (by omega), getD_app (a := dp) (by omega), getD_app (a := dp) (by omega)]
      · rw [if_neg k2, if_neg k2]
  · rw [if_neg hp, if_neg hp]
structure Shp (l : List Nd) (i : Nat) (bg dp : List Int) : Prop where
  lb : bg.length = i
  ld : dp.length = i
  at_ : ∀ j, j < i → nstep bg dp j (l.getD j nd0) = some (bg.getD j 0, dp.getD j 0)
  bgb : ∀ j, j < i → 0 ≤ bg.getD j 0 ∧ bg.getD j 0 ≤ j
  dpb : ∀ j, j < i → 1 ≤ dp.getD j 0 ∧ dp.getD j 0 ≤ j + 1
theorem nstep_bnd {bg dp : List Int} {i : Nat} {x : Nd} {b d : Int} (hb : ∀ j, j < i → 0 ≤ bg.getD j 0 ∧ bg.getD j 0 ≤ j) (hd : ∀ j, j < i → 1 ≤ dp.getD j 0 ∧ dp.getD j 0 ≤ j + 1) (h : nstep bg dp i x = some (b, d)) : (0 ≤ b ∧ b ≤ i) ∧ 1 ≤ d ∧ d ≤ i + 1 := by
  unfold nstep at h
  split at h
  · rename_i hp
    obtain ⟨ka, kb⟩ := plOk_kids hp
    split at h
    · split at h
      · cases h
        have := ka (by omega)
        have h1 := hb x.a.toNat (by omega)
        have h2 := hd x.a.toNat (by omega)
        omega
      · cases h
    · split at h
      · split at h
        · cases h
          have := ka (by omega)
          have := kb (by omega)
          have h1 := hb x.a.toNat (by omega)
          have h2 := hd x.a.toNat (by omega)
          have h3 := hd x.b.toNat (by omega)
          omega
        · cases h
      · cases h; omega
  · cases h
theorem shp_spec {l : List Nd} : ∀ {i : Nat} {bg dp : List Int}, shp l i = some (bg, dp) → Shp l i bg dp
  | 0, bg, dp, h => by
    cases h
    exact ⟨rfl, rfl, fun j hj => by omega, fun j hj => by omega, fun j hj => by omega⟩
  | i + 1, bg, dp, h => by
    unfold shp at h
    split at h
    · cases h
    · rename_i bg0 dp0 h0
      split at h
      · cases h
      · rename_i b d hn
        cases h
        obtain ⟨h1, h2, h3, h4, h5⟩ := shp_spec h0
        obtain ⟨hn1, hn2⟩ := nstep_bnd h4 h5 hn
        have gb : (bg0 ++ [b]).getD i 0 = b := by simp [List.getD, ← h1]
        have gd : (dp0 ++ [d]).getD i 0 = d := by simp [List.getD, ← h2]
        refine ⟨by simp [h1], by simp [h2], fun j hj => ?_, fun j hj => ?_, fun j hj => ?_⟩
        · rw [nstep_app (by omega) (by omega)]
          by_cases e : j = i
          · subst e; rw [gb, gd, hn]
          · rw [getD_app (by omega), getD_app (by omega)]; exact h3 j (by omega)
        · by_cases e : j = i
          · subst e; rw [gb]; omega
          · rw [getD_app (by omega)]; exact h4 j (by omega)
        · by_cases e : j = i
          · subst e; rw [gd]; omega
          · rw [getD_app (by omega)]; exact h5 j (by omega)
theorem shp_none {l : List Nd} {i : Nat} (h : shp l i = none) : ∀ n, i ≤ n → shp l n = none
  | 0, hn => by
    obtain rfl : i = 0 := by omega
    exact h
  | n + 1, hn => by
    by_cases e : i = n + 1
    · rw [← e]; exact h
    · rw [shp, shp_none h n (by omega)]
/-- Is it an expression? -/
def okE (l : List Nd) : Bool := decide (1 ≤ l.length ∧ l.length ≤ 60) && match shp l l.length with
  | none => false
  | some (bg, dp) => decide (bg.getD (l.length - 1) 0 = 0) && decide (∀ t, t < l.length → dp.getD t 0 ≤ 12)
def shB (l : List Nd) : List Int := match shp l l.length with
  | some (bg, _) => bg
  | none => []
def shD (l : List Nd) : List Int := match shp l l.length with
  | some (_, dp) => dp
  | none => []
def shO (l : List Nd) : Bool := match shp l l.length with
  | some _ => true
  | none => false
theorem sh_some {l : List Nd} {bg dp : List Int} (h : shp l l.length = some (bg, dp)) : shB l = bg ∧ shD l = dp ∧ shO l = true := by unfold shB shD shO; rw [h]; exact ⟨rfl, rfl, rfl⟩
theorem sh_none {l : List Nd} (h : shp l l.length = none) : shB l = [] ∧ shD l = [] ∧ shO l = false := by unfold shB shD shO; rw [h]; exact ⟨rfl, rfl, rfl⟩
end Go.PL

/- EC -/
namespace Go.PL
open Go Go.Proofs
set_option maxRecDepth 10000
set_option maxHeartbeats 4000000
set_option linter.unusedSimpArgs false
set_option linter.unusedVariables false
theorem ite_max (a b : Int) : (if a < b then b else a) = max a b := by split <;> omega
set_option maxHeartbeats 4000000 in
instance (l : List Nd) : Con CC 148 [.d (.sl (l.map encNd))] (l.length ≤ 1048576) (.tup [.d (.sl ((shB l).map .i)), .d (.sl ((shD l).map .i)), .d (.b (shO l))]) := by
  constructor; intro hl
  refine Den.pureI Tryz.func148 rfl 1 [.tmp 2, .tmp 3, .tmp 4] (by kernel_rfl) rfl rfl (by simp only [initE_nil, initE_cons, Nat.reduceAdd]; exact rfl) ?_
  repeat' first | (with_reducible first | refine nx' ?_ | refine n0 ?_ | refine rD ?_ | refine n1 ?_ | refine nilB_i fun b hb => ?_ | refine nP ?_ ?_ | refine nS fun K hK => ?_ | (refine n2 ?_ ?_ <;> intro h <;> first | subst (h : _ = true) | subst (h : _ = false) | skip) | refine And.intro ?_ ?_ | refine nK ‹Imp _ _› ?_) | exact nl | fail
  refine Wp.loopR (fun x : Nat × List Int × List Int => ⟨[(5, .msl 0 0 x.2.1.length), (6, .msl 1 0 x.2.2.length), (13, .d (.sl (l.map encNd))), (14, .d (.i l.length)), (15, .d (.i x.1))], [.arr 1 (x.2.1.map .i) false, .arr 1 (x.2.2.map .i) false]⟩) (fun x => l.length - x.1) (fun x => x.1 ≤ l.length ∧ shp l x.1 = some (x.2.1, x.2.2)) (0, [], []) Weak.lo ⟨by simp, rfl⟩ ?_
  rintro ⟨i, bg, dp⟩ ⟨hi, hs⟩ K hK
  simp only at hi hs ⊢
  obtain ⟨lb, ld, hat, hbb, hdb⟩ := shp_spec hs
  by_cases hil : i < l.length
  · have hsu := shp_succ hs
    generalize hx : l.getD i nd0 = x at *
    by_cases hp : plOk x i = true
    · obtain ⟨ka, kb⟩ := plOk_kids hp
      have hpe : plOk ⟨x.op, x.a, x.b, x.n⟩ i = true := hp
      by_cases k1 : kidsN x.op = 1
      · have ha := ka (by omega)
        by_cases h1 : x.a = (i : Int) - 1
        · have hn : nstep bg dp i x = some (bg.getD x.a.toNat 0, dp.getD x.a.toNat 0 + 1) := by unfold nstep; rw [if_pos hp, if_pos k1, if_pos h1]
          have hd1 := hdb x.a.toNat (by omega)
          rw [hn] at hsu
          repeat' first | (with_reducible first | refine nx' ?_ (by simp -implicitDefEqProofs (disch := omega) only [go_sem, hx, hp, hpe, k1]; exact rfl) | refine n0 ?_ | refine rD ?_ | refine n1 ?_ | refine nilB_i fun b hb => ?_ | refine nP ?_ ?_ | refine nS fun K hK => ?_ | (refine n2 ?_ ?_ <;> intro h <;> first | subst (h : _ = true) | subst (h : _ = false) | (simp only [FX, LX, hx, hp, hpe, k1] at h) | skip) | refine And.intro ?_ ?_ | refine nK ‹Imp _ _› ?_) | exact nl | fail
          exact ⟨(i + 1, _, _), by simp only; omega, ⟨by simp only; omega, hsu⟩, Weak.cu⟩
        · have hn : nstep bg dp i x = none := by unfold nstep; rw [if_pos hp, if_pos k1, if_neg h1]
          rw [hn] at hsu
          have hz := shp_none hsu l.length (by omega)
          obtain ⟨z1, z2, z3⟩ := sh_none hz
          repeat' first | (with_reducible first | refine nx' ?_ (by simp -implicitDefEqProofs (disch := omega) only [go_sem, hx, hp, hpe, k1]; exact rfl) | refine n0 ?_ | refine rD ?_ | refine n1 ?_ | refine nilB_i fun b hb => ?_ | refine nP ?_ ?_ | refine nS fun K hK => ?_ | (refine n2 ?_ ?_ <;> intro h <;> first | subst (h : _ = true) | subst (h : _ = false) | (simp only [FX, LX, hx, hp, hpe, k1] at h) | skip) | refine And.intro ?_ ?_ | refine nK ‹Imp _ _› ?_) | exact nl | fail
          all_goals (rw [z1, z2, z3]; rfl)
      by_cases k2 : kidsN x.op = 2
      · have ha := ka (by omega)
        have hb := kb (by omega)
        by_cases h1 : x.b = (i : Int) - 1 ∧ x.a = bg.getD x.b.toNat 0 - 1
        · have hn : nstep bg dp i x = some (bg.getD x.a.toNat 0, max (dp.getD x.a.toNat 0) (dp.getD x.b.toNat 0) + 1) := by unfold nstep; rw [if_pos hp, if_neg k1, if_pos k2, if_pos h1]
          have hd1 := hdb x.a.toNat (by omega)
          have hd2 := hdb x.b.toNat (by omega)
          have hb1 := hbb x.b.toNat (by omega)
          rw [hn] at hsu
          obtain ⟨h11, h12⟩ := h1
          repeat' first | (with_reducible first | refine nx' ?_ (by simp -implicitDefEqProofs (disch := omega) only [go_sem, hx, hp, hpe, k2, ite_max]; exact rfl) | refine n0 ?_ | refine rD ?_ | refine n1 ?_ | refine nilB_i fun b hb => ?_ | refine nP ?_ ?_ | refine nS fun K hK => ?_ | (refine n2 ?_ ?_ <;> intro h <;> first | subst (h : _ = true) | subst (h : _ = false) | (simp only [FX, LX, hx, hp, hpe, k2, ite_max] at h) | skip) | refine And.intro ?_ ?_ | refine nK ‹Imp _ _› ?_) | exact nl | fail
          all_goals exact ⟨(i + 1, _, _), by simp only; omega, ⟨by simp only; omega, hsu⟩, Weak.cu⟩
        · have hn : nstep bg dp i x = none := by unfold nstep; rw [if_pos hp, if_neg k1, if_pos k2, if_neg h1]
          rw [hn] at hsu
          have hb1 := hbb x.b.toNat (by omega)
          have hz := shp_none hsu l.length (by omega)
          obtain ⟨z1, z2, z3⟩ := sh_none hz
          repeat' first | (with_reducible first | refine nx' ?_ (by simp -implicitDefEqProofs (disch := omega) only [go_sem, hx, hp, hpe, k2, ite_max]; exact rfl) | refine n0 ?_ | refine rD ?_ | refine n1 ?_ | refine nilB_i fun b hb => ?_ | refine nP ?_ ?_ | refine nS fun K hK => ?_ | (refine n2 ?_ ?_ <;> intro h <;> first | subst (h : _ = true) | subst (h : _ = false) | (simp only [FX, LX, hx, hp, hpe, k2, ite_max] at h) | skip) | refine And.intro ?_ ?_ | refine nK ‹Imp _ _› ?_) | exact nl | fail
          all_goals (rw [z1, z2, z3]; rfl)
      · have hn : nstep bg dp i x = some ((i : Int), 1) := by unfold nstep; rw [if_pos hp, if_neg k1, if_neg k2]
        rw [hn] at hsu
        have k1' : kidsN x.op ≠ 1 := k1
        repeat' first | (with_reducible first | refine nx' ?_ (by simp -implicitDefEqProofs (disch := omega) only [go_sem, hx, hp, hpe]; exact rfl) | refine n0 ?_ | refine rD ?_ | refine n1 ?_ | refine nilB_i fun b hb => ?_ | refine nP ?_ ?_ | refine nS fun K hK => ?_ | (refine n2 ?_ ?_ <;> intro h <;> first | subst (h : _ = true) | subst (h : _ = false) | (simp only [FX, LX, hx, hp, hpe] at h) | skip) | refine And.intro ?_ ?_ | refine nK ‹Imp _ _› ?_) | exact nl | fail
        all_goals exact ⟨(i + 1, _, _), by simp only; omega, ⟨by simp only; omega, hsu⟩, Weak.cu⟩
    · have hn : nstep bg dp i x = none := by unfold nstep; rw [if_neg hp]
      rw [hn] at hsu
      have hz := shp_none hsu l.length (by omega)
      obtain ⟨z1, z2, z3⟩ := sh_none hz
      have hpe : plOk ⟨x.op, x.a, x.b, x.n⟩ i = false := by simpa using hp
      repeat' first | (with_reducible first | refine nx' ?_ (by simp -implicitDefEqProofs (disch := omega) only [go_sem, hx, hpe]; exact rfl) | refine n0 ?_ | refine rD ?_ | refine n1 ?_ | refine nilB_i fun b hb => ?_ | refine nP ?_ ?_ | refine nS fun K hK => ?_ | (refine n2 ?_ ?_ <;> intro h <;> first | subst (h : _ = true) | subst (h : _ = false) | (simp only [FX, LX, hx, hpe] at h) | skip) | refine And.intro ?_ ?_ | refine nK ‹Imp _ _› ?_) | exact nl | fail
      all_goals (rw [z1, z2, z3]; rfl)
  · obtain rfl : i = l.length := by omega
    obtain ⟨z1, z2, z3⟩ := sh_some hs
    repeat' first | (with_reducible first | refine nx' ?_ | refine n0 ?_ | refine rD ?_ | refine n1 ?_ | refine nilB_i fun b hb => ?_ | refine nP ?_ ?_ | refine nS fun K hK => ?_ | (refine n2 ?_ ?_ <;> intro h <;> first | subst (h : _ = true) | subst (h : _ = false) | skip) | refine And.intro ?_ ?_ | refine nK ‹Imp _ _› ?_) | exact nl | fail
    rw [z1, z2, z3]
end Go.PL
