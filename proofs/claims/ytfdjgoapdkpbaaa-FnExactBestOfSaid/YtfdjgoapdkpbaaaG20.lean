/- A plain machine, sound for the given model, and contracts of functions over it, part 20: A5 PlIdx. Nothing is assumed. -/
import Derived.Test.YtfdjgoapdkpbaaaPlLib
import Derived.Test.YtfdjgoapdkpbaaaA4
import Derived.KernelRfl
import Derived.Test.YtfdjgoapdkpbaaaProg
set_option linter.unusedSimpArgs false
set_option linter.unusedVariables false
set_option linter.unusedSectionVars false
/- A5 -/
namespace Go.PL
open Go Go.Proofs
set_option maxRecDepth 10000
set_option maxHeartbeats 4000000
set_option linter.unusedSimpArgs false
set_option linter.unusedVariables false
def bR (r : Rt) : Prop := r.num.length ≤ 1048576 ∧ r.den.length ≤ 1048576
def bV (l : List Rt) : Prop := l.length ≤ 1048576 ∧ ∀ r ∈ l, bR r
theorem bV.get {l : List Rt} (h : bV l) (i : Nat) : bR (l.getD i ⟨false, [], []⟩) := by
  rw [List.getD]
  cases hi : l[i]? with
  | none => exact ⟨by simp, by simp⟩
  | some r => exact h.2 r (List.mem_of_getElem? hi)
def okVec (l : List Rt) : Bool := decide (1 ≤ l.length ∧ l.length ≤ 4 ∧ ∀ t, t < l.length → okRat (l.getD t ⟨false, [], []⟩) = true)

instance (l : List Rt) : Con CC 45 [.d (.sl (l.map encR))] (bV l) (.d (.b (okVec l))) := by
  constructor; intro hb
  have hl := hb.1
  refine Den.pureI Try.func45 rfl 1 [.tmp 2] (by kernel_rfl) rfl rfl (by simp only [initE_nil, initE_cons, Nat.reduceAdd]; exact rfl) ?_
  repeat' first | (with_reducible first | refine nx' ?_ | refine n0 ?_ | refine rD ?_ | refine n1 ?_ | refine nilB_i fun b hb => ?_ | refine nP ?_ ?_ | refine nS fun K hK => ?_ | (refine n2 ?_ ?_ <;> intro h <;> first | subst (h : _ = true) | subst (h : _ = false) | skip) | refine And.intro ?_ ?_ | refine nK ‹Imp _ _› ?_) | exact nl | fail
  · simp [okVec]; omega
  refine Wp.loopR (fun i : Nat => ⟨[(0, .d (.sl (l.map encR))), (3, .d (.i i))], []⟩) (fun i => l.length - i) (fun i => i ≤ l.length ∧ ∀ t, t < i → okRat (l.getD t ⟨false, [], []⟩) = true) 0 Weak.lo ⟨by simp, by intro t ht; omega⟩ ?_
  rintro i ⟨hi, hd⟩ K hK
  have hbi := hb.get i
  obtain ⟨hb1, hb2⟩ := hbi
  repeat' first | (with_reducible first | refine nx' ?_ | refine n0 ?_ | refine rD ?_ | refine n1 ?_ | refine nilB_i fun b hb => ?_ | refine nP ?_ ?_ | refine nS fun K hK => ?_ | (refine n2 ?_ ?_ <;> intro h <;> first | subst (h : _ = true) | subst (h : _ = false) | skip) | refine And.intro ?_ ?_ | refine nK ‹Imp _ _› ?_) | exact nl | fail
  · congr 3
    rw [okVec, eq_comm, decide_eq_false_iff_not]
    rintro ⟨_, _, h3⟩
    exact absurd (h3 i (by omega)) (by simp only [Bool.not_eq_true]; exact h)
  · exact ⟨i + 1, by omega, ⟨by omega, fun t ht => by rcases (show t < i ∨ t = i by omega) with e | e; exact hd t e; rw [e]; exact h⟩, Weak.lo⟩
  · congr 3
    rw [okVec, ← Bool.decide_and, decide_eq_decide]
    exact ⟨fun hp => ⟨by omega, by omega, fun t ht => hd t (by omega)⟩, fun hp => ⟨by omega, by omega⟩⟩

structure Rc where
  iter : Int
  count : Int
  x : List Rt
  f : Rt
deriving DecidableEq
abbrev encRc (r : Rc) : D := .agg [.i r.iter, .i r.count, .sl (r.x.map encR), .b r.f.neg, encD r.f.num, encD r.f.den]
def okRc (r : Rc) : Bool := decide (0 ≤ r.iter ∧ r.iter ≤ 6 ∧ 0 ≤ r.count ∧ r.count ≤ 30) && okVec r.x && okRat r.f
def bRc (r : Rc) : Prop := bV r.x ∧ bR r.f

instance (a b : Int) (x : List Rt) (g : Bool) (u v : List Int) : Con CC 31 [.d (.agg [.i a, .i b, .sl (x.map encR), .b g, encD u, encD v])] (bRc ⟨a, b, x, ⟨g, u, v⟩⟩) (.d (.b (okRc ⟨a, b, x, ⟨g, u, v⟩⟩))) := by
  constructor; intro ⟨hb, hb1, hb2⟩
  simp only at hb hb1 hb2
  refine Den.pureI Try.func31 rfl 1 [.tmp 2] (by kernel_rfl) rfl rfl (by simp only [initE_nil, initE_cons, Nat.reduceAdd]; exact rfl) ?_
  repeat' first | (with_reducible first | refine nx' ?_ | refine n0 ?_ | refine rD ?_ | refine n1 ?_ | refine nilB_i fun b hb => ?_ | refine nP ?_ ?_ | refine nS fun K hK => ?_ | (refine n2 ?_ ?_ <;> intro h <;> first | subst (h : _ = true) | subst (h : _ = false) | skip) | refine And.intro ?_ ?_ | refine nK ‹Imp _ _› ?_) | exact nl | fail
  all_goals (congr 3; simp [okRc, *]; try omega)

def szR (r : Rt) : Nat := r.num.length + r.den.length
def szV (l : List Rt) : Nat := l.length + sumOf szR l
def pR (r : Rt) : Prop := r.num.length < 1152921504606846976 ∧ r.den.length < 1152921504606846976
def pV (l : List Rt) : Prop := l.length < 1152921504606846976 ∧ ∀ r ∈ l, pR r
theorem pV.get {l : List Rt} (h : pV l) (i : Nat) : pR (l.getD i ⟨false, [], []⟩) := by
  rw [List.getD]
  cases hi : l[i]? with
  | none => exact ⟨by simp, by simp⟩
  | some r => exact h.2 r (List.mem_of_getElem? hi)
instance (a : List Int) (left : Int) : Con CC 52 [.d (encD a), .d (.i left)] (rm left ∧ a.length < 1152921504606846976) (.d (.i (szL left a.length))) := by
  constructor; intro ⟨⟨h1, h2⟩, h3⟩
  refine Den.pureI Try.func52 rfl 2 [.tmp 4] (by kernel_rfl) rfl rfl (by simp only [initE_nil, initE_cons, Nat.reduceAdd]; exact rfl) ?_
  repeat' first | (with_reducible first | refine nx' ?_ | refine n0 ?_ | refine rD ?_ | refine n1 ?_ | refine nilB_i fun b hb => ?_ | refine nP ?_ ?_ | refine nS fun K hK => ?_ | (refine n2 ?_ ?_ <;> intro h <;> first | subst (h : _ = true) | subst (h : _ = false) | skip) | refine And.intro ?_ ?_ | refine nK ‹Imp _ _› ?_) | exact nl | fail
  all_goals (congr 3; unfold szL; split <;> omega)

instance (b : Bool) (x y : List Int) (left : Int) : Con CC 44 [.d (.agg [.b b, encD x, encD y]), .d (.i left)] (rm left ∧ pR ⟨b, x, y⟩) (.d (.i (szL left (szR ⟨b, x, y⟩)))) := by
  constructor; intro ⟨⟨h1, h2⟩, h3, h4⟩
  simp only at h3 h4
  have e1 : -1 ≤ szL left x.length ∧ szL left x.length ≤ 1048576 := by unfold szL; split <;> omega
  refine Den.pureI Try.func44 rfl 2 [.tmp 4] (by kernel_rfl) rfl rfl (by simp only [initE_nil, initE_cons, Nat.reduceAdd]; exact rfl) ?_
  repeat' first | (with_reducible first | refine nx' ?_ | refine n0 ?_ | refine rD ?_ | refine n1 ?_ | refine nilB_i fun b hb => ?_ | refine nP ?_ ?_ | refine nS fun K hK => ?_ | (refine n2 ?_ ?_ <;> intro h <;> first | subst (h : _ = true) | subst (h : _ = false) | skip) | refine And.intro ?_ ?_ | refine nK ‹Imp _ _› ?_) | exact nl | fail
  · rw [show szL left (szR ⟨b, x, y⟩) = -1 from szL_neg h]
  · rw [show szL left (szR ⟨b, x, y⟩) = szL (szL left x.length) y.length from szL_add.symm, szL_neg' h]
  · rw [szL_add]; rfl

instance (l : List Rt) (left : Int) : Con CC 43 [.d (.sl (l.map encR)), .d (.i left)] (rm left ∧ pV l) (.d (.i (szL left (szV l)))) := by
  constructor; intro ⟨⟨h1, h2⟩, hp⟩
  have h3 := hp.1
  refine Den.pureI Try.func43 rfl 2 [.tmp 4] (by kernel_rfl) rfl rfl (by simp only [initE_nil, initE_cons, Nat.reduceAdd]; exact rfl) ?_
  repeat' first | (with_reducible first | refine nx' ?_ | refine n0 ?_ | refine rD ?_ | refine n1 ?_ | refine nilB_i fun b hb => ?_ | refine nP ?_ ?_ | refine nS fun K hK => ?_ | (refine n2 ?_ ?_ <;> intro h <;> first | subst (h : _ = true) | subst (h : _ = false) | skip) | refine And.intro ?_ ?_ | refine nK ‹Imp _ _› ?_) | exact nl | fail
  · rw [show szL left (szV l) = -1 by unfold szL szV; rw [if_pos (by omega)]]
  refine Wp.loopR (fun i : Nat => ⟨[(0, .d (.sl (l.map encR))), (1, .d (.i (szL left (l.length + sumOf szR (l.take i))))), (5, .d (.i i))], []⟩) (fun i => l.length - i) (fun i => i ≤ l.length ∧ 0 ≤ szL left (l.length + sumOf szR (l.take i))) 0 (Weak.low (by simp -implicitDefEqProofs (disch := omega) only [go_sem, sub_nil, sub_cons, LX, sumOf, szL_pos (left := left) (n := l.length) (by omega)]; try ((repeat' refine And.intro ?_ ?_) <;> first | rfl | trivial | (congr 3; omega) | (congr 1; omega)))) ⟨by simp, by simp [sumOf, szL_pos (left := left) (n := l.length) (by omega)]; omega⟩ ?_
  rintro i ⟨hi, hd⟩ K hK
  have hq := hp.get i
  have hr := szL_rm (left := left) (n := l.length + sumOf szR (l.take i)) ⟨h1, h2⟩
  obtain ⟨hr1, hr2⟩ := hr
  by_cases hil : i < l.length
  · have e := sumOf_succ (f := szR) (l := l) ⟨false, [], []⟩ hil
    have e2 : szL (szL left (l.length + sumOf szR (l.take i))) (szR (l.getD i ⟨false, [], []⟩)) = szL left (l.length + sumOf szR (l.take (i + 1))) := by rw [szL_add, e, Nat.add_assoc]
    repeat' first | (with_reducible first | refine nx' ?_ | refine n0 ?_ | refine rD ?_ | refine n1 ?_ | refine nilB_i fun b hb => ?_ | refine nP ?_ ?_ | refine nS fun K hK => ?_ | (refine n2 ?_ ?_ <;> intro h <;> first | subst (h : _ = true) | subst (h : _ = false) | skip) | refine And.intro ?_ ?_ | refine nK ‹Imp _ _› ?_) | exact nl | fail
    · rw [e2] at h
      rw [show szL left (szV l) = -1 from szL_sum h]
    · rw [e2] at h
      exact ⟨i + 1, by omega, ⟨by omega, h⟩, (Weak.low (by simp -implicitDefEqProofs (disch := omega) only [go_sem, sub_nil, sub_cons, LX, e2]; try ((repeat' refine And.intro ?_ ?_) <;> first | rfl | trivial | (congr 3; omega) | (congr 1; omega))))⟩
  · repeat' first | (with_reducible first | refine nx' ?_ | refine n0 ?_ | refine rD ?_ | refine n1 ?_ | refine nilB_i fun b hb => ?_ | refine nP ?_ ?_ | refine nS fun K hK => ?_ | (refine n2 ?_ ?_ <;> intro h <;> first | subst (h : _ = true) | subst (h : _ = false) | skip) | refine And.intro ?_ ?_ | refine nK ‹Imp _ _› ?_) | exact nl | fail
    have : i = l.length := by omega
    subst this
    rw [List.take_length]; rfl

def szRc (r : Rc) : Nat := szV r.x + szR r.f
def pRc (r : Rc) : Prop := pV r.x ∧ pR r.f
instance (a b : Int) (x : List Rt) (g : Bool) (u v : List Int) (left : Int) : Con CC 30 [.d (.agg [.i a, .i b, .sl (x.map encR), .b g, encD u, encD v]), .d (.i left)] (rm left ∧ pRc ⟨a, b, x, ⟨g, u, v⟩⟩) (.d (.i (szL left (szRc ⟨a, b, x, ⟨g, u, v⟩⟩)))) := by
  constructor; intro ⟨⟨h1, h2⟩, h3, h4⟩
  simp only at h3 h4
  obtain ⟨e1, e2⟩ := szL_rm (left := left) (n := szV x) ⟨h1, h2⟩
  refine Den.pureI Try.func30 rfl 2 [.tmp 4] (by kernel_rfl) rfl rfl (by simp only [initE_nil, initE_cons, Nat.reduceAdd]; exact rfl) ?_
  repeat' first | (with_reducible first | refine nx' ?_ | refine n0 ?_ | refine rD ?_ | refine n1 ?_ | refine nilB_i fun b hb => ?_ | refine nP ?_ ?_ | refine nS fun K hK => ?_ | (refine n2 ?_ ?_ <;> intro h <;> first | subst (h : _ = true) | subst (h : _ = false) | skip) | refine And.intro ?_ ?_ | refine nK ‹Imp _ _› ?_) | exact nl | fail
  · rw [show szL left (szRc ⟨a, b, x, ⟨g, u, v⟩⟩) = -1 from szL_neg h]
  · rw [show szL left (szRc ⟨a, b, x, ⟨g, u, v⟩⟩) = szL (szL left (szV x)) (szR ⟨g, u, v⟩) from szL_add.symm, szL_neg' h]
  · rw [szL_add]; rfl

instance (a : List Int) : Con CC 56 [.d (encD a)] (a.length ≤ 1048576) (.d (encD a)) := by
  constructor; intro ha
  refine Den.pureI Try.func56 rfl 1 [.tmp 2] (by kernel_rfl) rfl rfl (by simp only [initE_nil, initE_cons, Nat.reduceAdd]; exact rfl) ?_
  repeat' first | (with_reducible first | refine nx' ?_ | refine n0 ?_ | refine rD ?_ | refine n1 ?_ | refine nilB_i fun b hb => ?_ | refine nP ?_ ?_ | refine nS fun K hK => ?_ | (refine n2 ?_ ?_ <;> intro h <;> first | subst (h : _ = true) | subst (h : _ = false) | skip) | refine And.intro ?_ ?_ | refine nK ‹Imp _ _› ?_) | exact nl | fail
  refine Wp.loopR (fun x : Nat × List Int => ⟨[(0, .d (encD a)), (3, .msl 0 0 x.2.length), (4, .d (.i x.1))], [.arr 1 (x.2.map .i) false]⟩) (fun x => a.length - x.1) (fun x => x.1 ≤ a.length ∧ x.2.length = a.length ∧ x.2.take x.1 = a.take x.1) (0, List.replicate a.length 0) Weak.lo ⟨by simp, by simp, by simp⟩ ?_
  rintro ⟨i, o⟩ ⟨hi, hl, hd⟩ K hK
  simp only at hi hl hd ⊢
  repeat' first | (with_reducible first | refine nx' ?_ | refine n0 ?_ | refine rD ?_ | refine n1 ?_ | refine nilB_i fun b hb => ?_ | refine nP ?_ ?_ | refine nS fun K hK => ?_ | (refine n2 ?_ ?_ <;> intro h <;> first | subst (h : _ = true) | subst (h : _ = false) | skip) | refine And.intro ?_ ?_ | refine nK ‹Imp _ _› ?_) | exact nl | fail
  · exact ⟨(i + 1, o.set i (a.getD i 0)), by simp only; omega, ⟨by simp only; omega, by simp [hl], take_set_succ 0 (by omega) hl hd⟩, Weak.lo⟩
  · rw [take_all hl (by omega) hd]

instance (a b : List Int) : Con CC 40 [.d (encD a), .d (encD b)] (a.length ≤ 1048576 ∧ b.length ≤ 1048576) (.d (.b (decide (a = b)))) := by
  constructor; intro ⟨ha, hb⟩
  refine Den.pureI Try.func40 rfl 2 [.tmp 4] (by kernel_rfl) rfl rfl (by simp only [initE_nil, initE_cons, Nat.reduceAdd]; exact rfl) ?_
  repeat' first | (with_reducible first | refine nx' ?_ | refine n0 ?_ | refine rD ?_ | refine n1 ?_ | refine nilB_i fun b hb => ?_ | refine nP ?_ ?_ | refine nS fun K hK => ?_ | (refine n2 ?_ ?_ <;> intro h <;> first | subst (h : _ = true) | subst (h : _ = false) | skip) | refine And.intro ?_ ?_ | refine nK ‹Imp _ _› ?_) | exact nl | fail
  · congr 3; rw [eq_comm, decide_eq_false_iff_not]; rintro rfl; exact h rfl
  refine Wp.loopR (fun i : Nat => ⟨[(0, .d (encD a)), (1, .d (encD b)), (5, .d (.i i))], []⟩) (fun i => a.length - i) (fun i => i ≤ a.length ∧ a.take i = b.take i) 0 Weak.lo ⟨by simp, by simp⟩ ?_
  rintro i ⟨hi, hd⟩ K hK
  repeat' first | (with_reducible first | refine nx' ?_ | refine n0 ?_ | refine rD ?_ | refine n1 ?_ | refine nilB_i fun b hb => ?_ | refine nP ?_ ?_ | refine nS fun K hK => ?_ | (refine n2 ?_ ?_ <;> intro h <;> first | subst (h : _ = true) | subst (h : _ = false) | skip) | refine And.intro ?_ ?_ | refine nK ‹Imp _ _› ?_) | exact nl | fail
  · congr 3; rw [eq_comm, decide_eq_false_iff_not]; exact ne_of_getD h
  · exact ⟨i + 1, by omega, ⟨by omega, take_eq_succ 0 (by omega) (by omega) hd h⟩, Weak.lo⟩
  · congr 3; rw [eq_comm, decide_eq_true_eq]; exact take_all (by omega) (by omega) hd

instance (b : Bool) (x y : List Int) : Con CC 49 [.d (.agg [.b b, encD x, encD y])] (x.length ≤ 1048576 ∧ y.length ≤ 1048576) (.d (encR ⟨b, x, y⟩)) := by
  constructor; intro ⟨h1, h2⟩
  refine Den.pureI Try.func49 rfl 1 [.cell 2 29] (by kernel_rfl) rfl rfl (by simp only [initE_nil, initE_cons, Nat.reduceAdd]; exact rfl) ?_
  repeat' first | (with_reducible first | refine nx' ?_ | refine n0 ?_ | refine rD ?_ | refine n1 ?_ | refine nilB_i fun b hb => ?_ | refine nP ?_ ?_ | refine nS fun K hK => ?_ | (refine n2 ?_ ?_ <;> intro h <;> first | subst (h : _ = true) | subst (h : _ = false) | skip) | refine And.intro ?_ ?_ | refine nK ‹Imp _ _› ?_) | exact nl | fail

instance (l : List Rt) : Con CC 48 [.d (.sl (l.map encR))] (bV l) (.d (.sl (l.map encR))) := by
  constructor; intro hb
  have hl0 := hb.1
  refine Den.pureI Try.func48 rfl 1 [.tmp 2] (by kernel_rfl) rfl rfl (by simp only [initE_nil, initE_cons, Nat.reduceAdd]; exact rfl) ?_
  repeat' first | (with_reducible first | refine nx' ?_ | refine n0 ?_ | refine rD ?_ | refine n1 ?_ | refine nilB_i fun b hb => ?_ | refine nP ?_ ?_ | refine nS fun K hK => ?_ | (refine n2 ?_ ?_ <;> intro h <;> first | subst (h : _ = true) | subst (h : _ = false) | skip) | refine And.intro ?_ ?_ | refine nK ‹Imp _ _› ?_) | exact nl | fail
  refine Wp.loopR (fun x : Nat × List Rt => ⟨[(0, .d (.sl (l.map encR))), (3, .msl 0 0 x.2.length), (4, .d (.i x.1))], [.arr 3 (x.2.map encR) false]⟩) (fun x => l.length - x.1) (fun x => x.1 ≤ l.length ∧ x.2.length = l.length ∧ x.2.take x.1 = l.take x.1) (0, List.replicate l.length ⟨false, [], []⟩)
    (Weak.rep1 (f := encR) (z := ⟨false, [], []⟩) rfl Weak.lo) ⟨by simp, by simp, by simp⟩ ?_
  rintro ⟨i, o⟩ ⟨hi, hl, hd⟩ K hK
  simp only at hi hl hd ⊢
  obtain ⟨hb1, hb2⟩ := hb.get i
  repeat' first | (with_reducible first | refine nx' ?_ | refine n0 ?_ | refine rD ?_ | refine n1 ?_ | refine nilB_i fun b hb => ?_ | refine nP ?_ ?_ | refine nS fun K hK => ?_ | (refine n2 ?_ ?_ <;> intro h <;> first | subst (h : _ = true) | subst (h : _ = false) | skip) | refine And.intro ?_ ?_ | refine nK ‹Imp _ _› ?_) | exact nl | fail
  · exact ⟨(i + 1, o.set i (l.getD i ⟨false, [], []⟩)), by simp only; omega, ⟨by simp only; omega, by simp [hl], take_set_succ _ (by omega) hl hd⟩, Weak.lo⟩
  · rw [take_all hl (by omega) hd]

instance (b c : Bool) (x y u v : List Int) : Con CC 23 [.d (.agg [.b b, encD x, encD y]), .d (.agg [.b c, encD u, encD v])] (bR ⟨b, x, y⟩ ∧ bR ⟨c, u, v⟩) (.d (.b (decide (Rt.mk b x y = Rt.mk c u v)))) := by
  constructor; intro ⟨⟨h1, h2⟩, h3, h4⟩
  simp only at h1 h2 h3 h4
  refine Den.pureI Try.func23 rfl 2 [.tmp 4] (by kernel_rfl) rfl rfl (by simp only [initE_nil, initE_cons, Nat.reduceAdd]; exact rfl) ?_
  repeat' first | (with_reducible first | refine nx' ?_ | refine n0 ?_ | refine rD ?_ | refine n1 ?_ | refine nilB_i fun b hb => ?_ | refine nP ?_ ?_ | refine nS fun K hK => ?_ | (refine n2 ?_ ?_ <;> intro h <;> first | subst (h : _ = true) | subst (h : _ = false) | skip) | refine And.intro ?_ ?_ | refine nK ‹Imp _ _› ?_) | exact nl | fail
  all_goals (congr 3; simp [*])

instance (l m : List Rt) : Con CC 22 [.d (.sl (l.map encR)), .d (.sl (m.map encR))] (bV l ∧ bV m) (.d (.b (decide (l = m)))) := by
  constructor; intro ⟨hl, hm⟩
  have hl0 := hl.1
  have hm0 := hm.1
  refine Den.pureI Try.func22 rfl 2 [.tmp 4] (by kernel_rfl) rfl rfl (by simp only [initE_nil, initE_cons, Nat.reduceAdd]; exact rfl) ?_
  repeat' first | (with_reducible first | refine nx' ?_ | refine n0 ?_ | refine rD ?_ | refine n1 ?_ | refine nilB_i fun b hb => ?_ | refine nP ?_ ?_ | refine nS fun K hK => ?_ | (refine n2 ?_ ?_ <;> intro h <;> first | subst (h : _ = true) | subst (h : _ = false) | skip) | refine And.intro ?_ ?_ | refine nK ‹Imp _ _› ?_) | exact nl | fail
  · congr 3; rw [eq_comm, decide_eq_false_iff_not]; rintro rfl; exact h rfl
  refine Wp.loopR (fun i : Nat => ⟨[(0, .d (.sl (l.map encR))), (1, .d (.sl (m.map encR))), (5, .d (.i i))], []⟩) (fun i => l.length - i) (fun i => i ≤ l.length ∧ l.take i = m.take i) 0 Weak.lo ⟨by simp, by simp⟩ ?_
  rintro i ⟨hi, hd⟩ K hK
  have hb1 := hl.get i
  have hb2 := hm.get i
  repeat' first | (with_reducible first | refine nx' ?_ | refine n0 ?_ | refine rD ?_ | refine n1 ?_ | refine nilB_i fun b hb => ?_ | refine nP ?_ ?_ | refine nS fun K hK => ?_ | (refine n2 ?_ ?_ <;> intro h <;> first | subst (h : _ = true) | subst (h : _ = false) | skip) | refine And.intro ?_ ?_ | refine nK ‹Imp _ _› ?_) | exact nl | fail
  · congr 3; rw [eq_comm, decide_eq_false_iff_not]; exact ne_of_getD h
  · exact ⟨i + 1, by omega, ⟨by omega, take_eq_succ _ (by omega) (by omega) hd h⟩, Weak.lo⟩
  · congr 3; rw [eq_comm, decide_eq_true_eq]; exact take_all (by omega) (by omega) hd

instance (a b : Int) (x : List Rt) (g : Bool) (u v : List Int) : Con CC 35 [.d (.agg [.i a, .i b, .sl (x.map encR), .b g, encD u, encD v])] (bRc ⟨a, b, x, ⟨g, u, v⟩⟩) (.d (encRc ⟨a, b, x, ⟨g, u, v⟩⟩)) := by
  constructor; intro ⟨hb, hb1, hb2⟩
  simp only at hb hb1 hb2
  refine Den.pureI Try.func35 rfl 1 [.cell 2 31] (by kernel_rfl) rfl rfl (by simp only [initE_nil, initE_cons, Nat.reduceAdd]; exact rfl) ?_
  repeat' first | (with_reducible first | refine nx' ?_ | refine n0 ?_ | refine rD ?_ | refine n1 ?_ | refine nilB_i fun b hb => ?_ | refine nP ?_ ?_ | refine nS fun K hK => ?_ | (refine n2 ?_ ?_ <;> intro h <;> first | subst (h : _ = true) | subst (h : _ = false) | skip) | refine And.intro ?_ ?_ | refine nK ‹Imp _ _› ?_) | exact nl | fail

instance (a b : Int) (x : List Rt) (g : Bool) (u v : List Int) (a' b' : Int) (x' : List Rt) (g' : Bool) (u' v' : List Int) : Con CC 8 [.d (.agg [.i a, .i b, .sl (x.map encR), .b g, encD u, encD v]), .d (.agg [.i a', .i b', .sl (x'.map encR), .b g', encD u', encD v'])]
    (bRc ⟨a, b, x, ⟨g, u, v⟩⟩ ∧ bRc ⟨a', b', x', ⟨g', u', v'⟩⟩) (.d (.b (decide (Rc.mk a b x ⟨g, u, v⟩ = Rc.mk a' b' x' ⟨g', u', v'⟩)))) := by
  constructor; intro ⟨⟨hb, hb1, hb2⟩, hc, hc1, hc2⟩
  refine Den.pureI Try.func8 rfl 2 [.tmp 4] (by kernel_rfl) rfl rfl (by simp only [initE_nil, initE_cons, Nat.reduceAdd]; exact rfl) ?_
  repeat' first | (with_reducible first | refine nx' ?_ | refine n0 ?_ | refine rD ?_ | refine n1 ?_ | refine nilB_i fun b hb => ?_ | refine nP ?_ ?_ | refine nS fun K hK => ?_ | (refine n2 ?_ ?_ <;> intro h <;> first | subst (h : _ = true) | subst (h : _ = false) | skip) | refine And.intro ?_ ?_ | refine nK ‹Imp _ _› ?_) | exact nl | fail
  all_goals (first | (congr 3; simp [*]; done) | exact ⟨hb1, hb2⟩ | exact ⟨hc1, hc2⟩)
end Go.PL

/- PlIdx -/
/- The place of the first that is so. -/
namespace Go.PL
/-- The place of the first that is so, -1 of none. -/
def idxOf {α : Type} (p : α → Bool) : List α → Int
  | [] => -1
  | x :: r => if p x then 0 else if idxOf p r < 0 then -1 else idxOf p r + 1
theorem idxOf_ge {α : Type} {p : α → Bool} : ∀ (l : List α), -1 ≤ idxOf p l
  | [] => by simp [idxOf]
  | x :: r => by have := idxOf_ge (p := p) r; simp only [idxOf]; split <;> (try split) <;> omega
theorem idxOf_at {α : Type} {p : α → Bool} (d : α) : ∀ (l : List α) (i : Nat), i < l.length → (∀ t, t < i → p (l.getD t d) = false) → p (l.getD i d) = true → idxOf p l = i
  | [], i, h, _, _ => by simp at h
  | x :: r, 0, _, _, hp => by simp only [idxOf]; rw [if_pos (by simpa using hp)]; rfl
  | x :: r, i + 1, h, hn, hp => by
    have h0 := hn 0 (by omega)
    have ih := idxOf_at d r i (by simpa using h) (fun t ht => by simpa using hn (t + 1) (by omega)) (by simpa using hp)
    simp only [idxOf]
    rw [if_neg (by simpa using h0), ih, if_neg (by omega)]; omega
theorem idxOf_none {α : Type} {p : α → Bool} (d : α) : ∀ (l : List α), (∀ t, t < l.length → p (l.getD t d) = false) → idxOf p l = -1
  | [], _ => rfl
  | x :: r, hn => by
    have h0 := hn 0 (by simp)
    have ih := idxOf_none d r (fun t ht => by simpa using hn (t + 1) (by simpa using ht))
    simp only [idxOf]
    rw [if_neg (by simpa using h0), ih, if_pos (by omega)]
theorem idxOf_any {α : Type} {p : α → Bool} : ∀ (l : List α), decide (0 ≤ idxOf p l) = l.any p
  | [] => rfl
  | x :: r => by
    have ih := idxOf_any (p := p) r
    have := idxOf_ge (p := p) r
    simp only [idxOf, List.any_cons]
    by_cases hp : p x = true
    · simp [hp]
    · simp only [Bool.not_eq_true] at hp
      simp only [hp, Bool.false_eq_true, if_false, Bool.false_or, ← ih]
      by_cases h : idxOf p r < 0
      · rw [if_pos h]; rw [decide_eq_false (by omega), decide_eq_false (by omega)]
      · rw [if_neg h]; rw [decide_eq_true (by omega), decide_eq_true (by omega)]
end Go.PL
