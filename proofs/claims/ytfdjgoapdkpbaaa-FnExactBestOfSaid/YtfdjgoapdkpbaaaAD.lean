/- A plain machine, sound for the given model, and contracts of functions over it, part 30: AD. Nothing is assumed. -/
import Derived.Test.YtfdjgoapdkpbaaaAB
set_option linter.unusedSimpArgs false
set_option linter.unusedVariables false
set_option linter.unusedSectionVars false
/- AD -/
namespace Go.PL
open Go Go.Proofs
set_option maxRecDepth 10000
set_option maxHeartbeats 4000000
set_option linter.unusedSimpArgs false
set_option linter.unusedVariables false
abbrev rc0 : Rc := ⟨0, 0, [], ⟨false, [], []⟩⟩
theorem encRc_eq {r : Rc} : encRc r = .agg [.i r.iter, .i r.count, .sl (r.x.map encR), .b r.f.neg, encD r.f.num, encD r.f.den] := rfl
instance : Enc encRc 6 rc0 := ⟨fun _ => rfl, fun x => by simp [D.cells, D.one]⟩
theorem app_Rc {l : List Rc} {a b : Int} {x : List Rt} {g : Bool} {u v : List Int} : l.map encRc ++ [D.agg [.val (.int .i64 a), .val (.int .i64 b), .sl (x.map encR), .val (.bool g), .sl (u.map .i), .sl (v.map .i)]] = (l ++ [(⟨a, b, x, ⟨g, u, v⟩⟩ : Rc)]).map encRc := by simp [encRc]
theorem set_Rc {l : List Rc} {k : Nat} {a b : Int} {x : List Rt} {g : Bool} {u v : List Int} : (l.map encRc).set k (D.agg [.val (.int .i64 a), .val (.int .i64 b), .sl (x.map encR), .val (.bool g), .sl (u.map .i), .sl (v.map .i)]) = (l.set k (⟨a, b, x, ⟨g, u, v⟩⟩ : Rc)).map encRc := by rw [List.map_set]
theorem Rc.eta {r : Rc} : (⟨r.iter, r.count, r.x, r.f⟩ : Rc) = r := rfl
attribute [go_sem] encRc_eq app_Rc set_Rc Rc.eta
def bRcs (l : List Rc) : Prop := l.length ≤ 1048576 ∧ ∀ r ∈ l, bRc r
theorem bRcs.get {l : List Rc} (h : bRcs l) (i : Nat) : bRc (l.getD i rc0) := by
  rw [List.getD]
  cases hi : l[i]? with
  | none => exact ⟨⟨by simp, by simp⟩, by simp, by simp⟩
  | some r => exact h.2 r (List.mem_of_getElem? hi)
def pRcs (l : List Rc) : Prop := l.length < 1152921504606846976 ∧ ∀ r ∈ l, pRc r
theorem pRcs.get {l : List Rc} (h : pRcs l) (i : Nat) : pRc (l.getD i rc0) := by
  rw [List.getD]
  cases hi : l[i]? with
  | none => exact ⟨⟨by simp, by simp⟩, by simp, by simp⟩
  | some r => exact h.2 r (List.mem_of_getElem? hi)
def szRcs (l : List Rc) : Nat := l.length + sumOf szRc l
instance (l : List Rc) (left : Int) : Con CC 13 [.d (.sl (l.map encRc)), .d (.i left)] (rm left ∧ pRcs l) (.d (.i (szL left (szRcs l)))) := by
  constructor; intro ⟨⟨h1, h2⟩, hp⟩
  have h3 := hp.1
  refine Den.pureI Try.func13 rfl 2 [.tmp 4] (by kernel_rfl) rfl rfl (by simp only [initE_nil, initE_cons, Nat.reduceAdd]; exact rfl) ?_
  repeat' first | (with_reducible first | refine nx' ?_ | refine n0 ?_ | refine rD ?_ | refine n1 ?_ | refine nilB_i fun b hb => ?_ | refine nP ?_ ?_ | refine nS fun K hK => ?_ | (refine n2 ?_ ?_ <;> intro h <;> first | subst (h : _ = true) | subst (h : _ = false) | skip) | refine And.intro ?_ ?_ | refine nK ‹Imp _ _› ?_) | exact nl | fail
  · rw [show szL left (szRcs l) = -1 by unfold szL szRcs; rw [if_pos (by omega)]]
  refine Wp.loopR (fun i : Nat => ⟨[(0, .d (.sl (l.map encRc))), (1, .d (.i (szL left (l.length + sumOf szRc (l.take i))))), (5, .d (.i i))], []⟩) (fun i => l.length - i) (fun i => i ≤ l.length ∧ 0 ≤ szL left (l.length + sumOf szRc (l.take i))) 0 (Weak.low (by simp -implicitDefEqProofs (disch := omega) only [go_sem, sub_nil, sub_cons, LX, sumOf, szL_pos (left := left) (n := l.length) (by omega)]; try ((repeat' refine And.intro ?_ ?_) <;> first | rfl | trivial | (congr 3; omega) | (congr 1; omega)))) ⟨by simp, by simp only [List.take_zero, sumOf]; rw [szL_pos (by omega)]; omega⟩ ?_
  rintro i ⟨hi, hd⟩ K hK
  have hq := hp.get i
  have hr := szL_rm (left := left) (n := l.length + sumOf szRc (l.take i)) ⟨h1, h2⟩
  by_cases hil : i < l.length
  · have e := sumOf_succ (f := szRc) (l := l) rc0 hil
    have e2 : szL (szL left (l.length + sumOf szRc (l.take i))) (szRc (l.getD i rc0)) = szL left (l.length + sumOf szRc (l.take (i + 1))) := by rw [szL_add, e, Nat.add_assoc]
    repeat' first | (with_reducible first | refine nx' ?_ | refine n0 ?_ | refine rD ?_ | refine n1 ?_ | refine nilB_i fun b hb => ?_ | refine nP ?_ ?_ | refine nS fun K hK => ?_ | (refine n2 ?_ ?_ <;> intro h <;> first | subst (h : _ = true) | subst (h : _ = false) | skip) | refine And.intro ?_ ?_ | refine nK ‹Imp _ _› ?_) | exact nl | fail
    · rw [e2] at h
      rw [show szL left (szRcs l) = -1 from szL_sum h]
    · rw [e2] at h
      exact ⟨i + 1, by omega, ⟨by omega, h⟩, (Weak.low (by simp -implicitDefEqProofs (disch := omega) only [go_sem, sub_nil, sub_cons, LX, e2]; try ((repeat' refine And.intro ?_ ?_) <;> first | rfl | trivial | (congr 3; omega) | (congr 1; omega))))⟩
  · repeat' first | (with_reducible first | refine nx' ?_ | refine n0 ?_ | refine rD ?_ | refine n1 ?_ | refine nilB_i fun b hb => ?_ | refine nP ?_ ?_ | refine nS fun K hK => ?_ | (refine n2 ?_ ?_ <;> intro h <;> first | subst (h : _ = true) | subst (h : _ = false) | skip) | refine And.intro ?_ ?_ | refine nK ‹Imp _ _› ?_) | exact nl | fail
    have : i = l.length := by omega
    subst this
    rw [List.take_length]; rfl
instance (l : List Rc) : Con CC 16 [.d (.sl (l.map encRc))] (bRcs l) (.d (.sl (l.map encRc))) := by
  constructor; intro hb
  have hl0 := hb.1
  refine Den.pureI Try.func16 rfl 1 [.tmp 2] (by kernel_rfl) rfl rfl (by simp only [initE_nil, initE_cons, Nat.reduceAdd]; exact rfl) ?_
  repeat' first | (with_reducible first | refine nx' ?_ | refine n0 ?_ | refine rD ?_ | refine n1 ?_ | refine nilB_i fun b hb => ?_ | refine nP ?_ ?_ | refine nS fun K hK => ?_ | (refine n2 ?_ ?_ <;> intro h <;> first | subst (h : _ = true) | subst (h : _ = false) | skip) | refine And.intro ?_ ?_ | refine nK ‹Imp _ _› ?_) | exact nl | fail
  refine Wp.loopR (fun x : Nat × List Rc => ⟨[(0, .d (.sl (l.map encRc))), (3, .msl 0 0 x.2.length), (4, .d (.i x.1))], [.arr 6 (x.2.map encRc) false]⟩) (fun x => l.length - x.1) (fun x => x.1 ≤ l.length ∧ x.2.length = l.length ∧ x.2.take x.1 = l.take x.1) (0, List.replicate l.length rc0)
    (Weak.rep1 (f := encRc) (z := rc0) rfl Weak.lo) ⟨by simp, by simp, by simp⟩ ?_
  rintro ⟨i, o⟩ ⟨hi, hl, hd⟩ K hK
  simp only at hi hl hd ⊢
  have hbi := hb.get i
  repeat' first | (with_reducible first | refine nx' ?_ | refine n0 ?_ | refine rD ?_ | refine n1 ?_ | refine nilB_i fun b hb => ?_ | refine nP ?_ ?_ | refine nS fun K hK => ?_ | (refine n2 ?_ ?_ <;> intro h <;> first | subst (h : _ = true) | subst (h : _ = false) | skip) | refine And.intro ?_ ?_ | refine nK ‹Imp _ _› ?_) | exact nl | fail
  · exact ⟨(i + 1, o.set i (l.getD i rc0)), by simp only; omega, ⟨by simp only; omega, by simp [hl], take_set_succ _ (by omega) hl hd⟩, Weak.lo⟩
  · rw [take_all hl (by omega) hd]
instance (l m : List Rc) : Con CC 24 [.d (.sl (l.map encRc)), .d (.sl (m.map encRc))] (bRcs l ∧ bRcs m) (.d (.b (decide (l = m)))) := by
  constructor; intro ⟨hl, hm⟩
  have hl0 := hl.1
  have hm0 := hm.1
  refine Den.pureI Try.func24 rfl 2 [.tmp 4] (by kernel_rfl) rfl rfl (by simp only [initE_nil, initE_cons, Nat.reduceAdd]; exact rfl) ?_
  repeat' first | (with_reducible first | refine nx' ?_ | refine n0 ?_ | refine rD ?_ | refine n1 ?_ | refine nilB_i fun b hb => ?_ | refine nP ?_ ?_ | refine nS fun K hK => ?_ | (refine n2 ?_ ?_ <;> intro h <;> first | subst (h : _ = true) | subst (h : _ = false) | skip) | refine And.intro ?_ ?_ | refine nK ‹Imp _ _› ?_) | exact nl | fail
  · congr 3; rw [eq_comm, decide_eq_false_iff_not]; rintro rfl; exact h rfl
  refine Wp.loopR (fun i : Nat => ⟨[(0, .d (.sl (l.map encRc))), (1, .d (.sl (m.map encRc))), (5, .d (.i i))], []⟩) (fun i => l.length - i) (fun i => i ≤ l.length ∧ l.take i = m.take i) 0 Weak.lo ⟨by simp, by simp⟩ ?_
  rintro i ⟨hi, hd⟩ K hK
  have hb1 := hl.get i
  have hb2 := hm.get i
  repeat' first | (with_reducible first | refine nx' ?_ | refine n0 ?_ | refine rD ?_ | refine n1 ?_ | refine nilB_i fun b hb => ?_ | refine nP ?_ ?_ | refine nS fun K hK => ?_ | (refine n2 ?_ ?_ <;> intro h <;> first | subst (h : _ = true) | subst (h : _ = false) | skip) | refine And.intro ?_ ?_ | refine nK ‹Imp _ _› ?_) | exact nl | fail
  · congr 3; rw [eq_comm, decide_eq_false_iff_not]; exact ne_of_getD h
  · exact ⟨i + 1, by omega, ⟨by omega, take_eq_succ _ (by omega) (by omega) hd h⟩, Weak.lo⟩
  · congr 3; rw [eq_comm, decide_eq_true_eq]; exact take_all (by omega) (by omega) hd

structure Rp where
  status : Int
  recs : List Rc
deriving DecidableEq
abbrev encRp (r : Rp) : D := .agg [.i r.status, .sl (r.recs.map encRc)]
instance (a left : Int) (l : List Rc) : Con CC 4 [.d (.agg [.i a, .sl (l.map encRc)]), .d (.i left)] (rm left ∧ pRcs l) (.d (.i (szL left (szRcs l)))) := by
  constructor; intro ⟨⟨h1, h2⟩, hp⟩
  refine Den.pureI Try.func4 rfl 2 [.tmp 4] (by kernel_rfl) rfl rfl (by simp only [initE_nil, initE_cons, Nat.reduceAdd]; exact rfl) ?_
  repeat' first | (with_reducible first | refine nx' ?_ | refine n0 ?_ | refine rD ?_ | refine n1 ?_ | refine nilB_i fun b hb => ?_ | refine nP ?_ ?_ | refine nS fun K hK => ?_ | (refine n2 ?_ ?_ <;> intro h <;> first | subst (h : _ = true) | subst (h : _ = false) | skip) | refine And.intro ?_ ?_ | refine nK ‹Imp _ _› ?_) | exact nl | fail
  rw [szL_neg' h]
instance (a : Int) (l : List Rc) : Con CC 6 [.d (.agg [.i a, .sl (l.map encRc)])] (bRcs l) (.d (encRp ⟨a, l⟩)) := by
  constructor; intro hb
  refine Den.pureI Try.func6 rfl 1 [.cell 2 36] (by kernel_rfl) rfl rfl (by simp only [initE_nil, initE_cons, Nat.reduceAdd]; exact rfl) ?_
  repeat' first | (with_reducible first | refine nx' ?_ | refine n0 ?_ | refine rD ?_ | refine n1 ?_ | refine nilB_i fun b hb => ?_ | refine nP ?_ ?_ | refine nS fun K hK => ?_ | (refine n2 ?_ ?_ <;> intro h <;> first | subst (h : _ = true) | subst (h : _ = false) | skip) | refine And.intro ?_ ?_ | refine nK ‹Imp _ _› ?_) | exact nl | fail
instance (a b : Int) (l m : List Rc) : Con CC 9 [.d (.agg [.i a, .sl (l.map encRc)]), .d (.agg [.i b, .sl (m.map encRc)])] (bRcs l ∧ bRcs m) (.d (.b (decide (Rp.mk a l = Rp.mk b m)))) := by
  constructor; intro ⟨hl, hm⟩
  refine Den.pureI Try.func9 rfl 2 [.tmp 4] (by kernel_rfl) rfl rfl (by simp only [initE_nil, initE_cons, Nat.reduceAdd]; exact rfl) ?_
  repeat' first | (with_reducible first | refine nx' ?_ | refine n0 ?_ | refine rD ?_ | refine n1 ?_ | refine nilB_i fun b hb => ?_ | refine nP ?_ ?_ | refine nS fun K hK => ?_ | (refine n2 ?_ ?_ <;> intro h <;> first | subst (h : _ = true) | subst (h : _ = false) | skip) | refine And.intro ?_ ?_ | refine nK ‹Imp _ _› ?_) | exact nl | fail
  all_goals (first | (congr 3; simp [*]; done))

/-- What holds of a record of a report, at its place. -/
def okAt (l : List Rc) (t : Nat) : Prop := okRc (l.getD t rc0) = true ∧ (l.getD t rc0).iter = t ∧ (l.getD t rc0).x.length = (l.getD 0 rc0).x.length
instance (l : List Rc) (t : Nat) : Decidable (okAt l t) := by unfold okAt; infer_instance
def okRp (r : Rp) : Bool := decide (1 ≤ r.status ∧ r.status ≤ 6 ∧ r.recs.length ≤ 7 ∧ ∀ t, t < r.recs.length → okAt r.recs t)
theorem okRp_not {a : Int} {l : List Rc} {i : Nat} (hi : i < l.length) (h : ¬okAt l i) : okRp ⟨a, l⟩ = false := by
  unfold okRp; rw [decide_eq_false_iff_not]; exact fun hh => h (hh.2.2.2 i hi)
theorem okRp_all {a : Int} {l : List Rc} (h : ∀ t, t < l.length → okAt l t) : okRp ⟨a, l⟩ = decide (1 ≤ a ∧ a ≤ 6 ∧ l.length ≤ 7) := by
  unfold okRp; rw [decide_eq_decide]; exact ⟨fun hh => ⟨hh.1, hh.2.1, hh.2.2.1⟩, fun hh => ⟨hh.1, hh.2.1, hh.2.2, h⟩⟩
instance (a : Int) (l : List Rc) : Con CC 14 [.d (.agg [.i a, .sl (l.map encRc)])] (bRcs l) (.d (.b (okRp ⟨a, l⟩))) := by
  constructor; intro hb
  have hl0 := hb.1
  have hb0 := hb.get 0
  refine Den.pureI Try.func14 rfl 1 [.tmp 2] (by kernel_rfl) rfl rfl (by simp only [initE_nil, initE_cons, Nat.reduceAdd]; exact rfl) ?_
  repeat' first | (with_reducible first | refine nx' ?_ | refine n0 ?_ | refine Wp.drawR (by decide +kernel) ?_ | refine Wp.drawSR [] [false, false, false, false, false, false, false, false, false, false, false, false, false, false, false, false, false, false, false, false, false] .done (by decide +kernel) ?_ | refine n1 ?_ | refine nilB_i fun b hb => ?_ | refine nP ?_ ?_ | refine nS fun K hK => ?_ | (refine n2 ?_ ?_ <;> intro h <;> first | subst (h : _ = true) | subst (h : _ = false) | skip) | refine And.intro ?_ ?_ | refine nK ‹Imp _ _› ?_) | exact nl | fail
  refine Wp.loopR (fun i : Nat => ⟨[(1, .ref 0 0 0), (3, .d (.i i))], [.var [.d (.i a), .d (.sl (l.map encRc))] false]⟩) (fun i => l.length - i) (fun i => i ≤ l.length ∧ ∀ t, t < i → okAt l t) 0 Weak.lo ⟨by simp, by intro t ht; omega⟩ ?_
  rintro i ⟨hi, hd⟩ K hK
  have hbi := hb.get i
  obtain ⟨hbx, _⟩ := id hbi
  have hbl := hbx.1
  have hbl0 := hb0.1.1
  repeat' first | (with_reducible first | refine nx' ?_ | refine n0 ?_ | refine Wp.drawR (by decide +kernel) ?_ | refine Wp.drawSR [] [false, false, false, false, false, false, false, false, false, false, false, false, false, false, false, false, false, false, false, false, false] .done (by decide +kernel) ?_ | refine n1 ?_ | refine nilB_i fun b hb => ?_ | refine nP ?_ ?_ | refine nS fun K hK => ?_ | (refine n2 ?_ ?_ <;> intro h <;> first | subst (h : _ = true) | subst (h : _ = false) | skip) | refine And.intro ?_ ?_ | refine nK ‹Imp _ _› ?_) | exact nl | fail
  · rw [okRp_not (i := i) (by omega) (fun hh => by have := hh.1; rw [h] at this; cases this)]
  · rw [okRp_not (i := i) (by omega) (fun hh => h hh.2.1)]
  · rw [okRp_not (i := i) (by omega) (fun hh => h (by rw [hh.2.2]))]
  · exact ⟨i + 1, by omega, ⟨by omega, fun t ht => by rcases (show t < i ∨ t = i by omega) with e | e; exact hd t e; rw [e]; exact ⟨by assumption, by assumption, by omega⟩⟩, Weak.cu⟩
  · obtain rfl : i = l.length := by omega
    rw [okRp_all hd]; congr 3; rw [decide_eq_decide]; omega
  · obtain rfl : i = l.length := by omega
    rw [okRp_all hd]; congr 3; rw [eq_comm, decide_eq_false_iff_not]; omega
instance (a : Int) (l : List Rc) : Con CC 36 [.d (.agg [.i a, .sl (l.map encRc)])] (bRcs l) (.d (.b (okRp ⟨a, l⟩))) := by
  constructor; intro hb
  have hl0 := hb.1
  have hb0 := hb.get 0
  refine Den.pureI Try.func36 rfl 1 [.tmp 2] (by kernel_rfl) rfl rfl (by simp only [initE_nil, initE_cons, Nat.reduceAdd]; exact rfl) ?_
  repeat' first | (with_reducible first | refine nx' ?_ | refine n0 ?_ | refine Wp.drawR (by decide +kernel) ?_ | refine Wp.drawSR [] [false, false, false, false, false, false, false, false, false, false, false, false, false, false, false, false, false, false, false, false, false] .done (by decide +kernel) ?_ | refine n1 ?_ | refine nilB_i fun b hb => ?_ | refine nP ?_ ?_ | refine nS fun K hK => ?_ | (refine n2 ?_ ?_ <;> intro h <;> first | subst (h : _ = true) | subst (h : _ = false) | skip) | refine And.intro ?_ ?_ | refine nK ‹Imp _ _› ?_) | exact nl | fail
  · unfold okRp; congr 3; rw [eq_comm, decide_eq_false_iff_not]; simp only; omega
  · unfold okRp; congr 3; rw [eq_comm, decide_eq_false_iff_not]; simp only; omega
  refine Wp.loopR (fun i : Nat => ⟨[(1, .ref 0 0 0), (16, .d (.sl (l.map encRc))), (17, .d (.i l.length)), (18, .d (.i i))], [.var [.d (.i a), .d (.sl (l.map encRc))] false]⟩) (fun i => l.length - i) (fun i => i ≤ l.length ∧ ∀ t, t < i → okAt l t) 0 Weak.lo ⟨by simp, by intro t ht; omega⟩ ?_
  rintro i ⟨hi, hd⟩ K hK
  have hbi := hb.get i
  obtain ⟨hbx, _⟩ := id hbi
  have hbl := hbx.1
  have hbl0 := hb0.1.1
  repeat' first | (with_reducible first | refine nx' ?_ | refine n0 ?_ | refine Wp.drawR (by decide +kernel) ?_ | refine Wp.drawSR [] [false, false, false, false, false, false, false, false, false, false, false, false, false, false, false, false, false, false, false, false, false] .done (by decide +kernel) ?_ | refine n1 ?_ | refine nilB_i fun b hb => ?_ | refine nP ?_ ?_ | refine nS fun K hK => ?_ | (refine n2 ?_ ?_ <;> intro h <;> first | subst (h : _ = true) | subst (h : _ = false) | skip) | refine And.intro ?_ ?_ | refine nK ‹Imp _ _› ?_) | exact nl | fail
  · rw [okRp_not (i := i) (by omega) (fun hh => by have := hh.1; rw [h] at this; cases this)]
  · rw [okRp_not (i := i) (by omega) (fun hh => h hh.2.1)]
  · rw [okRp_not (i := i) (by omega) (fun hh => h (by rw [hh.2.2]))]
  · exact ⟨i + 1, by omega, ⟨by omega, fun t ht => by rcases (show t < i ∨ t = i by omega) with e | e; exact hd t e; rw [e]; exact ⟨by assumption, by assumption, by omega⟩⟩, Weak.cu⟩
  · obtain rfl : i = l.length := by omega
    rw [okRp_all hd]; congr 3; rw [eq_comm, decide_eq_true_eq]; omega
theorem bRcs_of {l : List Rc} (h : 0 ≤ szL 1048576 (szRcs l)) : bRcs l := by
  have := szL_le h
  unfold szRcs at this
  refine ⟨by omega, fun r hr => ?_⟩
  have h2 := sumOf_mem (f := szRc) hr
  rw [show szRc r = szV r.x + (r.f.num.length + r.f.den.length) from rfl] at h2
  exact ⟨bV_of (by omega), by omega, by omega⟩
end Go.PL
