/- A plain machine, sound for the given model, and contracts of functions over it, part 29: EA. Nothing is assumed. -/
import Derived.Test.YtldgmfplnlnhcaaGreatG14
import Derived.Test.YtldgmfplnlnhcaaGreatG26
set_option linter.unusedSimpArgs false
set_option linter.unusedVariables false
set_option linter.unusedSectionVars false
/- EA -/
namespace Go.PL
open Go Go.Proofs
set_option maxRecDepth 10000
set_option maxHeartbeats 4000000
set_option linter.unusedSimpArgs false
set_option linter.unusedVariables false
theorem beq_dec (a b : Int) : (a == b) = decide (a = b) := by rw [Bool.eq_iff_iff]; simp
structure Nd where
  op : Int
  a : Int
  b : Int
  n : Int
deriving DecidableEq
abbrev encNd (k : Nd) : D := .agg [.i k.op, .i k.a, .i k.b, .i k.n]
abbrev nd0 : Nd := ⟨0, 0, 0, 0⟩
theorem encNd_eq {k : Nd} : encNd k = .agg [.i k.op, .i k.a, .i k.b, .i k.n] := rfl
instance : Enc encNd 4 nd0 := ⟨fun _ => rfl, fun x => by simp [D.cells, D.one]⟩
theorem app_Nd {l : List Nd} {o a b n : Int} : l.map encNd ++ [D.agg [.val (.int .i64 o), .val (.int .i64 a), .val (.int .i64 b), .val (.int .i64 n)]] = (l ++ [(⟨o, a, b, n⟩ : Nd)]).map encNd := by simp
theorem set_Nd {l : List Nd} {k : Nat} {o a b n : Int} : (l.map encNd).set k (D.agg [.val (.int .i64 o), .val (.int .i64 a), .val (.int .i64 b), .val (.int .i64 n)]) = (l.set k (⟨o, a, b, n⟩ : Nd)).map encNd := by rw [List.map_set]
theorem Nd.eta {k : Nd} : Nd.mk k.op k.a k.b k.n = k := rfl
theorem callee_mk1 {n : FuncId} {o i j : Nat} {args : List V} : calleeR (mkFn (.func n) [] [.ref o i j]) args = some (n, args ++ [.ref o i j]) := rfl
theorem callee_mk2 {n : FuncId} {o i j o' i' j' : Nat} {args : List V} : calleeR (mkFn (.func n) [] [.ref o i j, .ref o' i' j']) args = some (n, args ++ [.ref o i j, .ref o' i' j']) := rfl
attribute [go_sem] encNd_eq app_Nd set_Nd Nd.eta callee_mk1 callee_mk2
abbrev encE (l : List Nd) : D := .agg [.sl (l.map encNd)]
instance (l : List Nd) (left : Int) : Con CC 31 [.d (.sl (l.map encNd)), .d (.i left)] (rm left ∧ l.length < 1152921504606846976) (.d (.i (szL left l.length))) := by
  constructor; intro ⟨⟨h1, h2⟩, h3⟩
  refine Den.pureI Tryz.func31 rfl 2 [.tmp 4] (by kernel_rfl) rfl rfl (by simp only [initE_nil, initE_cons, Nat.reduceAdd]; exact rfl) ?_
  repeat' first | (with_reducible first | refine nx' ?_ | refine n0 ?_ | refine rD ?_ | refine n1 ?_ | refine nilB_i fun b hb => ?_ | refine nP ?_ ?_ | refine nS fun K hK => ?_ | (refine n2 ?_ ?_ <;> intro h <;> first | subst (h : _ = true) | subst (h : _ = false) | skip) | refine And.intro ?_ ?_ | refine nK ‹Imp _ _› ?_) | exact nl | fail
  all_goals (try (congr 3; unfold szL; split <;> omega))
instance (l : List Nd) (left : Int) : Con CC 12 [.d (.agg [.sl (l.map encNd)]), .d (.i left)] (rm left ∧ l.length < 1152921504606846976) (.d (.i (szL left l.length))) := by
  constructor; intro ⟨⟨h1, h2⟩, h3⟩
  have h4 : szL left l.length = -1 ∨ 0 ≤ szL left l.length := by unfold szL; split <;> omega
  refine Den.pureI Tryz.func12 rfl 2 [.tmp 4] (by kernel_rfl) rfl rfl (by simp only [initE_nil, initE_cons, Nat.reduceAdd]; exact rfl) ?_
  repeat' first | (with_reducible first | refine nx' ?_ | refine n0 ?_ | refine rD ?_ | refine n1 ?_ | refine nilB_i fun b hb => ?_ | refine nP ?_ ?_ | refine nS fun K hK => ?_ | (refine n2 ?_ ?_ <;> intro h <;> first | subst (h : _ = true) | subst (h : _ = false) | skip) | refine And.intro ?_ ?_ | refine nK ‹Imp _ _› ?_) | exact nl | fail
  all_goals (congr 3; omega)
instance (o a b n : Int) : Con CC 76 [.d (.agg [.i o, .i a, .i b, .i n])] True (.d (encNd ⟨o, a, b, n⟩)) := by
  constructor; intro _
  refine Den.pureI Tryz.func76 rfl 1 [.cell 2 112] (by kernel_rfl) rfl rfl (by simp only [initE_nil, initE_cons, Nat.reduceAdd]; exact rfl) ?_
  repeat' first | (with_reducible first | refine nx' ?_ | refine n0 ?_ | refine rD ?_ | refine n1 ?_ | refine nilB_i fun b hb => ?_ | refine nP ?_ ?_ | refine nS fun K hK => ?_ | (refine n2 ?_ ?_ <;> intro h <;> first | subst (h : _ = true) | subst (h : _ = false) | skip) | refine And.intro ?_ ?_ | refine nK ‹Imp _ _› ?_) | exact nl | fail
instance (l : List Nd) : Con CC 42 [.d (.sl (l.map encNd))] (l.length ≤ 1048576) (.d (.sl (l.map encNd))) := by
  constructor; intro hl0
  refine Den.pureI Tryz.func42 rfl 1 [.tmp 2] (by kernel_rfl) rfl rfl (by simp only [initE_nil, initE_cons, Nat.reduceAdd]; exact rfl) ?_
  repeat' first | (with_reducible first | refine nx' ?_ | refine n0 ?_ | refine rD ?_ | refine n1 ?_ | refine nilB_i fun b hb => ?_ | refine nP ?_ ?_ | refine nS fun K hK => ?_ | (refine n2 ?_ ?_ <;> intro h <;> first | subst (h : _ = true) | subst (h : _ = false) | skip) | refine And.intro ?_ ?_ | refine nK ‹Imp _ _› ?_) | exact nl | fail
  refine Wp.loopR (fun x : Nat × List Nd => ⟨[(0, .d (.sl (l.map encNd))), (3, .msl 0 0 x.2.length), (4, .d (.i x.1))], [.arr 4 (x.2.map encNd) false]⟩) (fun x => l.length - x.1) (fun x => x.1 ≤ l.length ∧ x.2.length = l.length ∧ x.2.take x.1 = l.take x.1) (0, List.replicate l.length nd0)
    (Weak.rep1 (f := encNd) (z := nd0) rfl Weak.lo) ⟨by simp, by simp, by simp⟩ ?_
  rintro ⟨i, o⟩ ⟨hi, hl, hd⟩ K hK
  simp only at hi hl hd ⊢
  repeat' first | (with_reducible first | refine nx' ?_ | refine n0 ?_ | refine rD ?_ | refine n1 ?_ | refine nilB_i fun b hb => ?_ | refine nP ?_ ?_ | refine nS fun K hK => ?_ | (refine n2 ?_ ?_ <;> intro h <;> first | subst (h : _ = true) | subst (h : _ = false) | skip) | refine And.intro ?_ ?_ | refine nK ‹Imp _ _› ?_) | exact nl | fail
  · exact ⟨(i + 1, o.set i (l.getD i nd0)), by simp only; omega, ⟨by simp only; omega, by simp [hl], take_set_succ _ (by omega) hl hd⟩, Weak.lo⟩
  · rw [take_all hl (by omega) hd]
instance (l : List Nd) : Con CC 18 [.d (.agg [.sl (l.map encNd)])] (l.length ≤ 1048576) (.d (.agg [.sl (l.map encNd)])) := by
  constructor; intro hl0
  refine Den.pureI Tryz.func18 rfl 1 [.cell 2 40] (by kernel_rfl) rfl rfl (by simp only [initE_nil, initE_cons, Nat.reduceAdd]; exact rfl) ?_
  repeat' first | (with_reducible first | refine nx' ?_ | refine n0 ?_ | refine rD ?_ | refine n1 ?_ | refine nilB_i fun b hb => ?_ | refine nP ?_ ?_ | refine nS fun K hK => ?_ | (refine n2 ?_ ?_ <;> intro h <;> first | subst (h : _ = true) | subst (h : _ = false) | skip) | refine And.intro ?_ ?_ | refine nK ‹Imp _ _› ?_) | exact nl | fail
instance (o a b n o' a' b' n' : Int) : Con CC 90 [.d (.agg [.i o, .i a, .i b, .i n]), .d (.agg [.i o', .i a', .i b', .i n'])] True (.d (.b (decide ((⟨o, a, b, n⟩ : Nd) = ⟨o', a', b', n'⟩)))) := by
  constructor; intro _
  refine Den.pureI Tryz.func90 rfl 2 [.tmp 4] (by kernel_rfl) rfl rfl (by simp only [initE_nil, initE_cons, Nat.reduceAdd]; exact rfl) ?_
  repeat' first | (with_reducible first | refine nx' ?_ | refine n0 ?_ | refine rD ?_ | refine n1 ?_ | refine nilB_i fun b hb => ?_ | refine nP ?_ ?_ | refine nS fun K hK => ?_ | (refine n2 ?_ ?_ <;> intro h <;> first | subst (h : _ = true) | subst (h : _ = false) | skip) | refine And.intro ?_ ?_ | refine nK ‹Imp _ _› ?_) | exact nl | fail
  all_goals (congr 3; simp [*])
instance (l m : List Nd) : Con CC 57 [.d (.sl (l.map encNd)), .d (.sl (m.map encNd))] (l.length ≤ 1048576 ∧ m.length ≤ 1048576) (.d (.b (decide (l = m)))) := by
  constructor; intro ⟨hl0, hm0⟩
  refine Den.pureI Tryz.func57 rfl 2 [.tmp 4] (by kernel_rfl) rfl rfl (by simp only [initE_nil, initE_cons, Nat.reduceAdd]; exact rfl) ?_
  repeat' first | (with_reducible first | refine nx' ?_ | refine n0 ?_ | refine rD ?_ | refine n1 ?_ | refine nilB_i fun b hb => ?_ | refine nP ?_ ?_ | refine nS fun K hK => ?_ | (refine n2 ?_ ?_ <;> intro h <;> first | subst (h : _ = true) | subst (h : _ = false) | skip) | refine And.intro ?_ ?_ | refine nK ‹Imp _ _› ?_) | exact nl | fail
  · congr 3; rw [eq_comm, decide_eq_false_iff_not]; rintro rfl; exact h rfl
  refine Wp.loopR (fun i : Nat => ⟨[(0, .d (.sl (l.map encNd))), (1, .d (.sl (m.map encNd))), (5, .d (.i i))], []⟩) (fun i => l.length - i) (fun i => i ≤ l.length ∧ l.take i = m.take i) 0 Weak.lo ⟨by simp, by simp⟩ ?_
  rintro i ⟨hi, hd⟩ K hK
  repeat' first | (with_reducible first | refine nx' ?_ | refine n0 ?_ | refine rD ?_ | refine n1 ?_ | refine nilB_i fun b hb => ?_ | refine nP ?_ ?_ | refine nS fun K hK => ?_ | (refine n2 ?_ ?_ <;> intro h <;> first | subst (h : _ = true) | subst (h : _ = false) | skip) | refine And.intro ?_ ?_ | refine nK ‹Imp _ _› ?_) | exact nl | fail
  · congr 3; rw [eq_comm, decide_eq_false_iff_not]; exact ne_of_getD h
  · exact ⟨i + 1, by omega, ⟨by omega, take_eq_succ _ (by omega) (by omega) hd h⟩, Weak.lo⟩
  · congr 3; rw [eq_comm, decide_eq_true_eq]; exact take_all (by omega) (by omega) hd
instance (l m : List Nd) : Con CC 27 [.d (.agg [.sl (l.map encNd)]), .d (.agg [.sl (m.map encNd)])] (l.length ≤ 1048576 ∧ m.length ≤ 1048576) (.d (.b (decide (l = m)))) := by
  constructor; intro hp
  refine Den.pureI Tryz.func27 rfl 2 [.tmp 4] (by kernel_rfl) rfl rfl (by simp only [initE_nil, initE_cons, Nat.reduceAdd]; exact rfl) ?_
  repeat' first | (with_reducible first | refine nx' ?_ | refine n0 ?_ | refine rD ?_ | refine n1 ?_ | refine nilB_i fun b hb => ?_ | refine nP ?_ ?_ | refine nS fun K hK => ?_ | (refine n2 ?_ ?_ <;> intro h <;> first | subst (h : _ = true) | subst (h : _ = false) | skip) | refine And.intro ?_ ?_ | refine nK ‹Imp _ _› ?_) | exact nl | fail
  all_goals simp [*]
instance (o : Int) : Con CC 92 [.d (.i o)] True (.d (.b (decide (3 ≤ o) && decide (o ≤ 6)))) := by
  constructor; intro _
  refine Den.pureI Tryz.func92 rfl 1 [.tmp 2] (by kernel_rfl) rfl rfl (by simp only [initE_nil, initE_cons, Nat.reduceAdd]; exact rfl) ?_
  repeat' first | (with_reducible first | refine nx' ?_ | refine n0 ?_ | refine rD ?_ | refine n1 ?_ | refine nilB_i fun b hb => ?_ | refine nP ?_ ?_ | refine nS fun K hK => ?_ | (refine n2 ?_ ?_ <;> intro h <;> first | subst (h : _ = true) | subst (h : _ = false) | skip) | refine And.intro ?_ ?_ | refine nK ‹Imp _ _› ?_) | exact nl | fail
instance (o : Int) : Con CC 94 [.d (.i o)] True (.d (.b (decide (o = 7 ∨ o = 8)))) := by
  constructor; intro _
  refine Den.pureI Tryz.func94 rfl 1 [.tmp 2] (by kernel_rfl) rfl rfl (by simp only [initE_nil, initE_cons, Nat.reduceAdd]; exact rfl) ?_
  repeat' first | (with_reducible first | refine nx' ?_ | refine n0 ?_ | refine rD ?_ | refine n1 ?_ | refine nilB_i fun b hb => ?_ | refine nP ?_ ?_ | refine nS fun K hK => ?_ | (refine n2 ?_ ?_ <;> intro h <;> first | subst (h : _ = true) | subst (h : _ = false) | skip) | refine And.intro ?_ ?_ | refine nK ‹Imp _ _› ?_) | exact nl | fail
  all_goals (congr 3; simp [*, beq_dec])
def kidsN (o : Int) : Int := if 3 ≤ o ∧ o ≤ 6 then 2 else if o = 7 ∨ o = 8 then 1 else 0
instance (o a b n : Int) : Con CC 163 [.d (.agg [.i o, .i a, .i b, .i n])] True (.d (.i (kidsN o))) := by
  constructor; intro _
  refine Den.pureI Tryz.func163 rfl 1 [.tmp 2] (by kernel_rfl) rfl rfl (by simp only [initE_nil, initE_cons, Nat.reduceAdd]; exact rfl) ?_
  repeat' first | (with_reducible first | refine nx' ?_ | refine n0 ?_ | refine rD ?_ | refine n1 ?_ | refine nilB_i fun b hb => ?_ | refine nP ?_ ?_ | refine nS fun K hK => ?_ | (refine n2 ?_ ?_ <;> intro h <;> first | subst (h : _ = true) | subst (h : _ = false) | skip) | refine And.intro ?_ ?_ | refine nK ‹Imp _ _› ?_) | exact nl | fail
  all_goals (congr 3; unfold kidsN; split <;> (try split) <;> omega)
def numOk (o n : Int) : Bool := if o = 1 then decide (0 ≤ n ∧ n ≤ 999999999) else if o = 2 then decide (0 ≤ n ∧ n ≤ 3) else if o = 8 then decide (0 ≤ n ∧ n ≤ 8) else decide (n = 0)
instance (o a b n : Int) : Con CC 178 [.d (.agg [.i o, .i a, .i b, .i n])] True (.d (.b (numOk o n))) := by
  constructor; intro _
  refine Den.pureI Tryz.func178 rfl 1 [.tmp 2] (by kernel_rfl) rfl rfl (by simp only [initE_nil, initE_cons, Nat.reduceAdd]; exact rfl) ?_
  repeat' first | (with_reducible first | refine nx' ?_ | refine n0 ?_ | refine rD ?_ | refine n1 ?_ | refine nilB_i fun b hb => ?_ | refine nP ?_ ?_ | refine nS fun K hK => ?_ | (refine n2 ?_ ?_ <;> intro h <;> first | subst (h : _ = true) | subst (h : _ = false) | skip) | refine And.intro ?_ ?_ | refine nK ‹Imp _ _› ?_) | exact nl | fail
  all_goals (congr 3; simp [numOk, *, beq_dec])
def chOk (h : Bool) (k p : Int) : Bool := if h then decide (0 ≤ k ∧ k ≤ p - 1) else decide (k = 0)
instance (h : Bool) (k p : Int) : Con CC 179 [.d (.b h), .d (.i k), .d (.ptr [.i p])] (0 ≤ p ∧ p ≤ 1048576) (.d (.b (chOk h k p))) := by
  constructor; intro hp
  refine Den.pureI Tryz.func179 rfl 3 [.tmp 5] (by kernel_rfl) rfl rfl (by simp only [initE_nil, initE_cons, Nat.reduceAdd]; exact rfl) ?_
  repeat' first | (with_reducible first | refine nx' ?_ | refine n0 ?_ | refine rD ?_ | refine n1 ?_ | refine nilB_i fun b hb => ?_ | refine nP ?_ ?_ | refine nS fun K hK => ?_ | (refine n2 ?_ ?_ <;> intro h <;> first | subst (h : _ = true) | subst (h : _ = false) | skip) | refine And.intro ?_ ?_ | refine nK ‹Imp _ _› ?_) | exact nl | fail
  all_goals (first | (congr 3; done) | (congr 3; simp [chOk, *, beq_dec]; done) | (congr 3; simp [chOk, *, beq_dec]; omega))
def plOk (x : Nd) (p : Int) : Bool := decide (1 ≤ x.op ∧ x.op ≤ 8) && numOk x.op x.n && chOk (decide (0 < kidsN x.op)) x.a p && chOk (decide (1 < kidsN x.op)) x.b p
instance (o a b n p : Int) : Con CC 162 [.d (.agg [.i o, .i a, .i b, .i n]), .d (.i p)] (0 ≤ p ∧ p ≤ 1048576) (.d (.b (plOk ⟨o, a, b, n⟩ p))) := by
  constructor; intro hp
  refine Den.pureI Tryz.func162 rfl 2 [.tmp 4] (by kernel_rfl) rfl rfl (by simp only [initE_nil, initE_cons, Nat.reduceAdd]; exact rfl) ?_
  repeat' first | (with_reducible first | refine nx' ?_ | refine n0 ?_ | refine Wp.drawR (by decide +kernel) ?_ | refine Wp.drawSR [] [false, false, false, false, false, false, false, false, false, false, false, false, false, false, false, false, false] .done (by decide +kernel) ?_ | refine n1 ?_ | refine nilB_i fun b hb => ?_ | refine nP ?_ ?_ | refine nS fun K hK => ?_ | (refine n2 ?_ ?_ <;> intro h <;> first | subst (h : _ = true) | subst (h : _ = false) | skip) | refine And.intro ?_ ?_ | refine nK ‹Imp _ _› ?_) | exact nl | fail
  all_goals (first | (congr 3; done) | (congr 3; simp [plOk, *]; done) | (congr 3; simp [plOk, *]; intros; omega))
end Go.PL
