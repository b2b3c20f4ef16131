/- A plain machine, sound for the given model, and contracts of functions over it, part 33: EA EB EC. Nothing is assumed. -/
import Derived.Test.YtapgbbaefieibacGreatDoorG30
set_option linter.unusedSimpArgs false
set_option linter.unusedVariables false
set_option linter.unusedSectionVars false
/- EA -/
namespace Go.PL
open Go Go.Proofs
set_option maxRecDepth 10000
set_option maxHeartbeats 4000000
set_option linter.unusedSimpArgs false
set_option linter.unusedVariables false
theorem beq_dec (a b : Int) : (a == b) = decide (a = b) := by rw [Bool.eq_iff_iff]; simp
structure Nd where
  op : Int
  a : Int
  b : Int
  n : Int
deriving DecidableEq
abbrev encNd (k : Nd) : D := .agg [.i k.op, .i k.a, .i k.b, .i k.n]
abbrev nd0 : Nd := ⟨0, 0, 0, 0⟩
theorem encNd_eq {k : Nd} : encNd k = .agg [.i k.op, .i k.a, .i k.b, .i k.n] := rfl
instance : Enc encNd 4 nd0 := ⟨fun _ => rfl, fun x => by simp [D.cells, D.one]⟩
theorem app_Nd {l : List Nd} {o a b n : Int} : l.map encNd ++ [D.agg [.val (.int .i64 o), .val (.int .i64 a), .val (.int .i64 b), .val (.int .i64 n)]] = (l ++ [(⟨o, a, b, n⟩ : Nd)]).map encNd := by simp
theorem set_Nd {l : List Nd} {k : Nat} {o a b n : Int} : (l.map encNd).set k (D.agg [.val (.int .i64 o), .val (.int .i64 a), .val (.int .i64 b), .val (.int .i64 n)]) = (l.set k (⟨o, a, b, n⟩ : Nd)).map encNd := by rw [List.map_set]
theorem Nd.eta {k : Nd} : Nd.mk k.op k.a k.b k.n = k := rfl
theorem callee_mk1 {n : FuncId} {o i j : Nat} {args : List V} : calleeR (mkFn (.func n) [] [.ref o i j]) args = some (n, args ++ [.ref o i j]) := rfl
theorem callee_mk2 {n : FuncId} {o i j o' i' j' : Nat} {args : List V} : calleeR (mkFn (.func n) [] [.ref o i j, .ref o' i' j']) args = some (n, args ++ [.ref o i j, .ref o' i' j']) := rfl
attribute [go_sem] encNd_eq app_Nd set_Nd Nd.eta callee_mk1 callee_mk2
abbrev encE (l : List Nd) : D := .agg [.sl (l.map encNd)]
instance (l : List Nd) (left : Int) : Con CC 30 [.d (.sl (l.map encNd)), .d (.i left)] (rm left ∧ l.length < 1152921504606846976) (.d (.i (szL left l.length))) := by
  constructor; intro ⟨⟨h1, h2⟩, h3⟩
  refine Den.pureI Tryz.func30 rfl 2 [.tmp 4] (by kernel_rfl) rfl rfl (by simp only [initE_nil, initE_cons, Nat.reduceAdd]; exact rfl) ?_
  repeat' first | (with_reducible first | refine nx' ?_ | refine n0 ?_ | refine rD ?_ | refine n1 ?_ | refine nilB_i fun b hb => ?_ | refine nP ?_ ?_ | refine nS fun K hK => ?_ | (refine n2 ?_ ?_ <;> intro h <;> first | subst (h : _ = true) | subst (h : _ = false) | skip) | refine And.intro ?_ ?_ | refine nK ‹Imp _ _› ?_) | exact nl | fail
  all_goals (try (congr 3; unfold szL; split <;> omega))
instance (l : List Nd) (left : Int) : Con CC 13 [.d (.agg [.sl (l.map encNd)]), .d (.i left)] (rm left ∧ l.length < 1152921504606846976) (.d (.i (szL left l.length))) := by
  constructor; intro ⟨⟨h1, h2⟩, h3⟩
  have h4 : szL left l.length = -1 ∨ 0 ≤ szL left l.length := by unfold szL; split <;> omega
  refine Den.pureI Tryz.func13 rfl 2 [.tmp 4] (by kernel_rfl) rfl rfl (by simp only [initE_nil, initE_cons, Nat.reduceAdd]; exact rfl) ?_
  repeat' first | (with_reducible first | refine nx' ?_ | refine n0 ?_ | refine rD ?_ | refine n1 ?_ | refine nilB_i fun b hb => ?_ | refine nP ?_ ?_ | refine nS fun K hK => ?_ | (refine n2 ?_ ?_ <;> intro h <;> first | subst (h : _ = true) | subst (h : _ = false) | skip) | refine And.intro ?_ ?_ | refine nK ‹Imp _ _› ?_) | exact nl | fail
  all_goals (congr 3; omega)
instance (o a b n : Int) : Con CC 70 [.d (.agg [.i o, .i a, .i b, .i n])] True (.d (encNd ⟨o, a, b, n⟩)) := by
  constructor; intro _
  refine Den.pureI Tryz.func70 rfl 1 [.cell 2 87] (by kernel_rfl) rfl rfl (by simp only [initE_nil, initE_cons, Nat.reduceAdd]; exact rfl) ?_
  repeat' first | (with_reducible first | refine nx' ?_ | refine n0 ?_ | refine rD ?_ | refine n1 ?_ | refine nilB_i fun b hb => ?_ | refine nP ?_ ?_ | refine nS fun K hK => ?_ | (refine n2 ?_ ?_ <;> intro h <;> first | subst (h : _ = true) | subst (h : _ = false) | skip) | refine And.intro ?_ ?_ | refine nK ‹Imp _ _› ?_) | exact nl | fail
instance (l : List Nd) : Con CC 45 [.d (.sl (l.map encNd))] (l.length ≤ 1048576) (.d (.sl (l.map encNd))) := by
  constructor; intro hl0
  refine Den.pureI Tryz.func45 rfl 1 [.tmp 2] (by kernel_rfl) rfl rfl (by simp only [initE_nil, initE_cons, Nat.reduceAdd]; exact rfl) ?_
  repeat' first | (with_reducible first | refine nx' ?_ | refine n0 ?_ | refine rD ?_ | refine n1 ?_ | refine nilB_i fun b hb => ?_ | refine nP ?_ ?_ | refine nS fun K hK => ?_ | (refine n2 ?_ ?_ <;> intro h <;> first | subst (h : _ = true) | subst (h : _ = false) | skip) | refine And.intro ?_ ?_ | refine nK ‹Imp _ _› ?_) | exact nl | fail
  refine Wp.loopR (fun x : Nat × List Nd => ⟨[(0, .d (.sl (l.map encNd))), (3, .msl 0 0 x.2.length), (4, .d (.i x.1))], [.arr 4 (x.2.map encNd) false]⟩) (fun x => l.length - x.1) (fun x => x.1 ≤ l.length ∧ x.2.length = l.length ∧ x.2.take x.1 = l.take x.1) (0, List.replicate l.length nd0)
    (Weak.rep1 (f := encNd) (z := nd0) rfl Weak.lo) ⟨by simp, by simp, by simp⟩ ?_
  rintro ⟨i, o⟩ ⟨hi, hl, hd⟩ K hK
  simp only at hi hl hd ⊢
  repeat' first | (with_reducible first | refine nx' ?_ | refine n0 ?_ | refine rD ?_ | refine n1 ?_ | refine nilB_i fun b hb => ?_ | refine nP ?_ ?_ | refine nS fun K hK => ?_ | (refine n2 ?_ ?_ <;> intro h <;> first | subst (h : _ = true) | subst (h : _ = false) | skip) | refine And.intro ?_ ?_ | refine nK ‹Imp _ _› ?_) | exact nl | fail
  · exact ⟨(i + 1, o.set i (l.getD i nd0)), by simp only; omega, ⟨by simp only; omega, by simp [hl], take_set_succ _ (by omega) hl hd⟩, Weak.lo⟩
  · rw [take_all hl (by omega) hd]
instance (l : List Nd) : Con CC 18 [.d (.agg [.sl (l.map encNd)])] (l.length ≤ 1048576) (.d (.agg [.sl (l.map encNd)])) := by
  constructor; intro hl0
  refine Den.pureI Tryz.func18 rfl 1 [.cell 2 37] (by kernel_rfl) rfl rfl (by simp only [initE_nil, initE_cons, Nat.reduceAdd]; exact rfl) ?_
  repeat' first | (with_reducible first | refine nx' ?_ | refine n0 ?_ | refine rD ?_ | refine n1 ?_ | refine nilB_i fun b hb => ?_ | refine nP ?_ ?_ | refine nS fun K hK => ?_ | (refine n2 ?_ ?_ <;> intro h <;> first | subst (h : _ = true) | subst (h : _ = false) | skip) | refine And.intro ?_ ?_ | refine nK ‹Imp _ _› ?_) | exact nl | fail
instance (o a b n o' a' b' n' : Int) : Con CC 84 [.d (.agg [.i o, .i a, .i b, .i n]), .d (.agg [.i o', .i a', .i b', .i n'])] True (.d (.b (decide ((⟨o, a, b, n⟩ : Nd) = ⟨o', a', b', n'⟩)))) := by
  constructor; intro _
  refine Den.pureI Tryz.func84 rfl 2 [.tmp 4] (by kernel_rfl) rfl rfl (by simp only [initE_nil, initE_cons, Nat.reduceAdd]; exact rfl) ?_
  repeat' first | (with_reducible first | refine nx' ?_ | refine n0 ?_ | refine rD ?_ | refine n1 ?_ | refine nilB_i fun b hb => ?_ | refine nP ?_ ?_ | refine nS fun K hK => ?_ | (refine n2 ?_ ?_ <;> intro h <;> first | subst (h : _ = true) | subst (h : _ = false) | skip) | refine And.intro ?_ ?_ | refine nK ‹Imp _ _› ?_) | exact nl | fail
  all_goals (congr 3; simp [*])
instance (l m : List Nd) : Con CC 54 [.d (.sl (l.map encNd)), .d (.sl (m.map encNd))] (l.length ≤ 1048576 ∧ m.length ≤ 1048576) (.d (.b (decide (l = m)))) := by
  constructor; intro ⟨hl0, hm0⟩
  refine Den.pureI Tryz.func54 rfl 2 [.tmp 4] (by kernel_rfl) rfl rfl (by simp only [initE_nil, initE_cons, Nat.reduceAdd]; exact rfl) ?_
  repeat' first | (with_reducible first | refine nx' ?_ | refine n0 ?_ | refine rD ?_ | refine n1 ?_ | refine nilB_i fun b hb => ?_ | refine nP ?_ ?_ | refine nS fun K hK => ?_ | (refine n2 ?_ ?_ <;> intro h <;> first | subst (h : _ = true) | subst (h : _ = false) | skip) | refine And.intro ?_ ?_ | refine nK ‹Imp _ _› ?_) | exact nl | fail
  · congr 3; rw [eq_comm, decide_eq_false_iff_not]; rintro rfl; exact h rfl
  refine Wp.loopR (fun i : Nat => ⟨[(0, .d (.sl (l.map encNd))), (1, .d (.sl (m.map encNd))), (5, .d (.i i))], []⟩) (fun i => l.length - i) (fun i => i ≤ l.length ∧ l.take i = m.take i) 0 Weak.lo ⟨by simp, by simp⟩ ?_
  rintro i ⟨hi, hd⟩ K hK
  repeat' first | (with_reducible first | refine nx' ?_ | refine n0 ?_ | refine rD ?_ | refine n1 ?_ | refine nilB_i fun b hb => ?_ | refine nP ?_ ?_ | refine nS fun K hK => ?_ | (refine n2 ?_ ?_ <;> intro h <;> first | subst (h : _ = true) | subst (h : _ = false) | skip) | refine And.intro ?_ ?_ | refine nK ‹Imp _ _› ?_) | exact nl | fail
  · congr 3; rw [eq_comm, decide_eq_false_iff_not]; exact ne_of_getD h
  · exact ⟨i + 1, by omega, ⟨by omega, take_eq_succ _ (by omega) (by omega) hd h⟩, Weak.lo⟩
  · congr 3; rw [eq_comm, decide_eq_true_eq]; exact take_all (by omega) (by omega) hd
instance (l m : List Nd) : Con CC 23 [.d (.agg [.sl (l.map encNd)]), .d (.agg [.sl (m.map encNd)])] (l.length ≤ 1048576 ∧ m.length ≤ 1048576) (.d (.b (decide (l = m)))) := by
  constructor; intro hp
  refine Den.pureI Tryz.func23 rfl 2 [.tmp 4] (by kernel_rfl) rfl rfl (by simp only [initE_nil, initE_cons, Nat.reduceAdd]; exact rfl) ?_
  repeat' first | (with_reducible first | refine nx' ?_ | refine n0 ?_ | refine rD ?_ | refine n1 ?_ | refine nilB_i fun b hb => ?_ | refine nP ?_ ?_ | refine nS fun K hK => ?_ | (refine n2 ?_ ?_ <;> intro h <;> first | subst (h : _ = true) | subst (h : _ = false) | skip) | refine And.intro ?_ ?_ | refine nK ‹Imp _ _› ?_) | exact nl | fail
  all_goals simp [*]
instance (o : Int) : Con CC 59 [.d (.i o)] True (.d (.b (decide (3 ≤ o) && decide (o ≤ 6)))) := by
  constructor; intro _
  refine Den.pureI Tryz.func59 rfl 1 [.tmp 2] (by kernel_rfl) rfl rfl (by simp only [initE_nil, initE_cons, Nat.reduceAdd]; exact rfl) ?_
  repeat' first | (with_reducible first | refine nx' ?_ | refine n0 ?_ | refine rD ?_ | refine n1 ?_ | refine nilB_i fun b hb => ?_ | refine nP ?_ ?_ | refine nS fun K hK => ?_ | (refine n2 ?_ ?_ <;> intro h <;> first | subst (h : _ = true) | subst (h : _ = false) | skip) | refine And.intro ?_ ?_ | refine nK ‹Imp _ _› ?_) | exact nl | fail
instance (o : Int) : Con CC 61 [.d (.i o)] True (.d (.b (decide (o = 7 ∨ o = 8)))) := by
  constructor; intro _
  refine Den.pureI Tryz.func61 rfl 1 [.tmp 2] (by kernel_rfl) rfl rfl (by simp only [initE_nil, initE_cons, Nat.reduceAdd]; exact rfl) ?_
  repeat' first | (with_reducible first | refine nx' ?_ | refine n0 ?_ | refine rD ?_ | refine n1 ?_ | refine nilB_i fun b hb => ?_ | refine nP ?_ ?_ | refine nS fun K hK => ?_ | (refine n2 ?_ ?_ <;> intro h <;> first | subst (h : _ = true) | subst (h : _ = false) | skip) | refine And.intro ?_ ?_ | refine nK ‹Imp _ _› ?_) | exact nl | fail
  all_goals (congr 3; simp [*, beq_dec])
def kidsN (o : Int) : Int := if 3 ≤ o ∧ o ≤ 6 then 2 else if o = 7 ∨ o = 8 then 1 else 0
instance (o a b n : Int) : Con CC 98 [.d (.agg [.i o, .i a, .i b, .i n])] True (.d (.i (kidsN o))) := by
  constructor; intro _
  refine Den.pureI Tryz.func98 rfl 1 [.tmp 2] (by kernel_rfl) rfl rfl (by simp only [initE_nil, initE_cons, Nat.reduceAdd]; exact rfl) ?_
  repeat' first | (with_reducible first | refine nx' ?_ | refine n0 ?_ | refine rD ?_ | refine n1 ?_ | refine nilB_i fun b hb => ?_ | refine nP ?_ ?_ | refine nS fun K hK => ?_ | (refine n2 ?_ ?_ <;> intro h <;> first | subst (h : _ = true) | subst (h : _ = false) | skip) | refine And.intro ?_ ?_ | refine nK ‹Imp _ _› ?_) | exact nl | fail
  all_goals (congr 3; unfold kidsN; split <;> (try split) <;> omega)
def numOk (o n : Int) : Bool := if o = 1 then decide (0 ≤ n ∧ n ≤ 999999999) else if o = 2 then decide (0 ≤ n ∧ n ≤ 3) else if o = 8 then decide (0 ≤ n ∧ n ≤ 8) else decide (n = 0)
instance (o a b n : Int) : Con CC 131 [.d (.agg [.i o, .i a, .i b, .i n])] True (.d (.b (numOk o n))) := by
  constructor; intro _
  refine Den.pureI Tryz.func131 rfl 1 [.tmp 2] (by kernel_rfl) rfl rfl (by simp only [initE_nil, initE_cons, Nat.reduceAdd]; exact rfl) ?_
  repeat' first | (with_reducible first | refine nx' ?_ | refine n0 ?_ | refine rD ?_ | refine n1 ?_ | refine nilB_i fun b hb => ?_ | refine nP ?_ ?_ | refine nS fun K hK => ?_ | (refine n2 ?_ ?_ <;> intro h <;> first | subst (h : _ = true) | subst (h : _ = false) | skip) | refine And.intro ?_ ?_ | refine nK ‹Imp _ _› ?_) | exact nl | fail
  all_goals (congr 3; simp [numOk, *, beq_dec])
def chOk (h : Bool) (k p : Int) : Bool := if h then decide (0 ≤ k ∧ k ≤ p - 1) else decide (k = 0)
instance (h : Bool) (k p : Int) : Con CC 132 [.d (.b h), .d (.i k), .d (.ptr [.i p])] (0 ≤ p ∧ p ≤ 1048576) (.d (.b (chOk h k p))) := by
  constructor; intro hp
  refine Den.pureI Tryz.func132 rfl 3 [.tmp 5] (by kernel_rfl) rfl rfl (by simp only [initE_nil, initE_cons, Nat.reduceAdd]; exact rfl) ?_
  repeat' first | (with_reducible first | refine nx' ?_ | refine n0 ?_ | refine rD ?_ | refine n1 ?_ | refine nilB_i fun b hb => ?_ | refine nP ?_ ?_ | refine nS fun K hK => ?_ | (refine n2 ?_ ?_ <;> intro h <;> first | subst (h : _ = true) | subst (h : _ = false) | skip) | refine And.intro ?_ ?_ | refine nK ‹Imp _ _› ?_) | exact nl | fail
  all_goals (first | (congr 3; done) | (congr 3; simp [chOk, *, beq_dec]; done) | (congr 3; simp [chOk, *, beq_dec]; omega))
def plOk (x : Nd) (p : Int) : Bool := decide (1 ≤ x.op ∧ x.op ≤ 8) && numOk x.op x.n && chOk (decide (0 < kidsN x.op)) x.a p && chOk (decide (1 < kidsN x.op)) x.b p
instance (o a b n p : Int) : Con CC 112 [.d (.agg [.i o, .i a, .i b, .i n]), .d (.i p)] (0 ≤ p ∧ p ≤ 1048576) (.d (.b (plOk ⟨o, a, b, n⟩ p))) := by
  constructor; intro hp
  refine Den.pureI Tryz.func112 rfl 2 [.tmp 4] (by kernel_rfl) rfl rfl (by simp only [initE_nil, initE_cons, Nat.reduceAdd]; exact rfl) ?_
  repeat' first | (with_reducible first | refine nx' ?_ | refine n0 ?_ | refine Wp.drawR (by decide +kernel) ?_ | refine Wp.drawSR [] [false, false, false, false, false, false, false, false, false, false, false, false, false, false, false, false, false] .done (by decide +kernel) ?_ | refine n1 ?_ | refine nilB_i fun b hb => ?_ | refine nP ?_ ?_ | refine nS fun K hK => ?_ | (refine n2 ?_ ?_ <;> intro h <;> first | subst (h : _ = true) | subst (h : _ = false) | skip) | refine And.intro ?_ ?_ | refine nK ‹Imp _ _› ?_) | exact nl | fail
  all_goals (first | (congr 3; done) | (congr 3; simp [plOk, *]; done) | (congr 3; simp [plOk, *]; intros; omega))
end Go.PL

/- EB -/
namespace Go.PL
open Go Go.Proofs
set_option maxRecDepth 10000
set_option maxHeartbeats 4000000
set_option linter.unusedSimpArgs false
set_option linter.unusedVariables false
/-- Where a node's tree begins and how deep it is, from those before it. -/
def nstep (bg dp : List Int) (i : Nat) (x : Nd) : Option (Int × Int) :=
  if plOk x i = true then
    if kidsN x.op = 1 then (if x.a = (i : Int) - 1 then some (bg.getD x.a.toNat 0, dp.getD x.a.toNat 0 + 1) else none)
    else if kidsN x.op = 2 then (if x.b = (i : Int) - 1 ∧ x.a = bg.getD x.b.toNat 0 - 1 then some (bg.getD x.a.toNat 0, max (dp.getD x.a.toNat 0) (dp.getD x.b.toNat 0) + 1) else none)
    else some ((i : Int), 1)
  else none
def shp (l : List Nd) : Nat → Option (List Int × List Int)
  | 0 => some ([], [])
  | i + 1 => match shp l i with
    | none => none
    | some (bg, dp) => match nstep bg dp i (l.getD i nd0) with
      | none => none
      | some (b, d) => some (bg ++ [b], dp ++ [d])
theorem shp_succ {l : List Nd} {i : Nat} {bg dp : List Int} (h : shp l i = some (bg, dp)) : shp l (i + 1) = match nstep bg dp i (l.getD i nd0) with
      | none => none
      | some (b, d) => some (bg ++ [b], dp ++ [d]) := by
  rw [shp, h]
theorem plOk_kids {x : Nd} {p : Int} (h : plOk x p = true) : (0 < kidsN x.op → 0 ≤ x.a ∧ x.a ≤ p - 1) ∧ (1 < kidsN x.op → 0 ≤ x.b ∧ x.b ≤ p - 1) := by
  unfold plOk chOk at h
  simp only [Bool.and_eq_true] at h
  refine ⟨fun h1 => ?_, fun h1 => ?_⟩
  · have := h.1.2
    rw [if_pos (by simpa using h1)] at this
    simpa using this
  · have := h.2
    rw [if_pos (by simpa using h1)] at this
    simpa using this
theorem getD_app {a b : List Int} {k : Nat} (h : k < a.length) : (a ++ b).getD k 0 = a.getD k 0 := by
  simp [List.getD, List.getElem?_append_left h]
theorem nstep_app {bg dp b d : List Int} {i : Nat} {x : Nd} (h1 : i ≤ bg.length) (h2 : i ≤ dp.length) : nstep (bg ++ b) (dp ++ d) i x = nstep bg dp i x := by
  unfold nstep
  by_cases hp : plOk x i = true
  · obtain ⟨ha, hb⟩ := plOk_kids hp
    rw [if_pos hp, if_pos hp]
    by_cases k1 : kidsN x.op = 1
    · have := ha (by omega)
      rw [if_pos k1, if_pos k1, getD_app (by omega), getD_app (by omega)]
    · rw [if_neg k1, if_neg k1]
      by_cases k2 : kidsN x.op = 2
      · have := ha (by omega)
        have := hb (by omega)
        rw [if_pos k2, if_pos k2, getD_app (a := bg) (by omega), getD_app (a := bg) (by omega), getD_app (a := dp) (by omega), getD_app (a := dp) (by omega)]
      · rw [if_neg k2, if_neg k2]
  · rw [if_neg hp, if_neg hp]
structure Shp (l : List Nd) (i : Nat) (bg dp : List Int) : Prop where
  lb : bg.length = i
  ld : dp.length = i
  at_ : ∀ j, j < i → nstep bg dp j (l.getD j nd0) = some (bg.getD j 0, dp.getD j 0)
  bgb : ∀ j, j < i → 0 ≤ bg.getD j 0 ∧ bg.getD j 0 ≤ j
  dpb : ∀ j, j < i → 1 ≤ dp.getD j 0 ∧ dp.getD j 0 ≤ j + 1
theorem nstep_bnd {bg dp : List Int} {i : Nat} {x : Nd} {b d : Int} (hb : ∀ j, j < i → 0 ≤ bg.getD j 0 ∧ bg.getD j 0 ≤ j) (hd : ∀ j, j < i → 1 ≤ dp.getD j 0 ∧ dp.getD j 0 ≤ j + 1) (h : nstep bg dp i x = some (b, d)) : (0 ≤ b ∧ b ≤ i) ∧ 1 ≤ d ∧ d ≤ i + 1 := by
  unfold nstep at h
  split at h
  · rename_i hp
    obtain ⟨ka, kb⟩ := plOk_kids hp
    split at h
    · split at h
      · cases h
        have := ka (by omega)
        have h1 := hb x.a.toNat (by omega)
        have h2 := hd x.a.toNat (by omega)
        omega
      · cases h
    · split at h
      · split at h
        · cases h
          have := ka (by omega)
          have := kb (by omega)
          have h1 := hb x.a.toNat (by omega)
          have h2 := hd x.a.toNat (by omega)
          have h3 := hd x.b.toNat (by omega)
          omega
        · cases h
      · cases h; omega
  · cases h
theorem shp_spec {l : List Nd} : ∀ {i : Nat} {bg dp : List Int}, shp l i = some (bg, dp) → Shp l i bg dp
  | 0, bg, dp, h => by
    cases h
    exact ⟨rfl, rfl, fun j hj => by omega, fun j hj => by omega, fun j hj => by omega⟩
  | i + 1, bg, dp, h => by
    unfold shp at h
    split at h
    · cases h
    · rename_i bg0 dp0 h0
      split at h
      · cases h
      · rename_i b d hn
        cases h
        obtain ⟨h1, h2, h3, h4, h5⟩ := shp_spec h0
        obtain ⟨hn1, hn2⟩ := nstep_bnd h4 h5 hn
        have gb : (bg0 ++ [b]).getD i 0 = b := by simp [List.getD, ← h1]
        have gd : (dp0 ++ [d]).getD i 0 = d := by simp [List.getD, ← h2]
        refine ⟨by simp [h1], by simp [h2], fun j hj => ?_, fun j hj => ?_, fun j hj => ?_⟩
        · rw [nstep_app (by omega) (by omega)]
          by_cases e : j = i
          · subst e; rw [gb, gd, hn]
          · rw [getD_app (by omega), getD_app (by omega)]; exact h3 j (by omega)
        · by_cases e : j = i
          · subst e; rw [gb]; omega
          · rw [getD_app (by omega)]; exact h4 j (by omega)
        · by_cases e : j = i
          · subst e; rw [gd]; omega
          · rw [getD_app (by omega)]; exact h5 j (by omega)
theorem shp_none {l : List Nd} {i : Nat} (h : shp l i = none) : ∀ n, i ≤ n → shp l n = none
  | 0, hn => by
    obtain rfl : i = 0 := by omega
    exact h
  | n + 1, hn => by
    by_cases e : i = n + 1
    · rw [← e]; exact h
    · rw [shp, shp_none h n (by omega)]
/-- Is it an expression? -/
def okE (l : List Nd) : Bool := decide (1 ≤ l.length ∧ l.length ≤ 60) && match shp l l.length with
  | none => false
  | some (bg, dp) => decide (bg.getD (l.length - 1) 0 = 0) && decide (∀ t, t < l.length → dp.getD t 0 ≤ 12)
def shB (l : List Nd) : List Int := match shp l l.length with
  | some (bg, _) => bg
  | none => []
def shD (l : List Nd) : List Int := match shp l l.length with
  | some (_, dp) => dp
  | none => []
def shO (l : List Nd) : Bool := match shp l l.length with
  | some _ => true
  | none => false
theorem sh_some {l : List Nd} {bg dp : List Int} (h : shp l l.length = some (bg, dp)) : shB l = bg ∧ shD l = dp ∧ shO l = true := by unfold shB shD shO; rw [h]; exact ⟨rfl, rfl, rfl⟩
theorem sh_none {l : List Nd} (h : shp l l.length = none) : shB l = [] ∧ shD l = [] ∧ shO l = false := by unfold shB shD shO; rw [h]; exact ⟨rfl, rfl, rfl⟩
end Go.PL

/- EC -/
namespace Go.PL
open Go Go.Proofs
set_option maxRecDepth 10000
set_option maxHeartbeats 4000000
set_option linter.unusedSimpArgs false
set_option linter.unusedVariables false
theorem ite_max (a b : Int) : (if a < b then b else a) = max a b := by split <;> omega
set_option maxHeartbeats 4000000 in
instance (l : List Nd) : Con CC 89 [.d (.sl (l.map encNd))] (l.length ≤ 1048576) (.tup [.d (.sl ((shB l).map .i)), .d (.sl ((shD l).map .i)), .d (.b (shO l))]) := by
  constructor; intro hl
  refine Den.pureI Tryz.func89 rfl 1 [.tmp 2, .tmp 3, .tmp 4] (by kernel_rfl) rfl rfl (by simp only [initE_nil, initE_cons, Nat.reduceAdd]; exact rfl) ?_
  repeat' first | (with_reducible first | refine nx' ?_ | refine n0 ?_ | refine rD ?_ | refine n1 ?_ | refine nilB_i fun b hb => ?_ | refine nP ?_ ?_ | refine nS fun K hK => ?_ | (refine n2 ?_ ?_ <;> intro h <;> first | subst (h : _ = true) | subst (h : _ = false) | skip) | refine And.intro ?_ ?_ | refine nK ‹Imp _ _› ?_) | exact nl | fail
  refine Wp.loopR (fun x : Nat × List Int × List Int => ⟨[(5, .msl 0 0 x.2.1.length), (6, .msl 1 0 x.2.2.length), (13, .d (.sl (l.map encNd))), (14, .d (.i l.length)), (15, .d (.i x.1))], [.arr 1 (x.2.1.map .i) false, .arr 1 (x.2.2.map .i) false]⟩) (fun x => l.length - x.1) (fun x => x.1 ≤ l.length ∧ shp l x.1 = some (x.2.1, x.2.2)) (0, [], []) Weak.lo ⟨by simp, rfl⟩ ?_
  rintro ⟨i, bg, dp⟩ ⟨hi, hs⟩ K hK
  simp only at hi hs ⊢
  obtain ⟨lb, ld, hat, hbb, hdb⟩ := shp_spec hs
  by_cases hil : i < l.length
  · have hsu := shp_succ hs
    generalize hx : l.getD i nd0 = x at *
    by_cases hp : plOk x i = true
    · obtain ⟨ka, kb⟩ := plOk_kids hp
      have hpe : plOk ⟨x.op, x.a, x.b, x.n⟩ i = true := hp
      by_cases k1 : kidsN x.op = 1
      · have ha := ka (by omega)
        by_cases h1 : x.a = (i : Int) - 1
        · have hn : nstep bg dp i x = some (bg.getD x.a.toNat 0, dp.getD x.a.toNat 0 + 1) := by unfold nstep; rw [if_pos hp, if_pos k1, if_pos h1]
          have hd1 := hdb x.a.toNat (by omega)
          rw [hn] at hsu
          repeat' first | (with_reducible first | refine nx' ?_ (by simp -implicitDefEqProofs (disch := omega) only [go_sem, hx, hp, hpe, k1]; exact rfl) | refine n0 ?_ | refine rD ?_ | refine n1 ?_ | refine nilB_i fun b hb => ?_ | refine nP ?_ ?_ | refine nS fun K hK => ?_ | (refine n2 ?_ ?_ <;> intro h <;> first | subst (h : _ = true) | subst (h : _ = false) | (simp only [FX, LX, hx, hp, hpe, k1] at h) | skip) | refine And.intro ?_ ?_ | refine nK ‹Imp _ _› ?_) | exact nl | fail
          exact ⟨(i + 1, _, _), by simp only; omega, ⟨by simp only; omega, hsu⟩, Weak.cu⟩
        · have hn : nstep bg dp i x = none := by unfold nstep; rw [if_pos hp, if_pos k1, if_neg h1]
          rw [hn] at hsu
          have hz := shp_none hsu l.length (by omega)
          obtain ⟨z1, z2, z3⟩ := sh_none hz
          repeat' first | (with_reducible first | refine nx' ?_ (by simp -implicitDefEqProofs (disch := omega) only [go_sem, hx, hp, hpe, k1]; exact rfl) | refine n0 ?_ | refine rD ?_ | refine n1 ?_ | refine nilB_i fun b hb => ?_ | refine nP ?_ ?_ | refine nS fun K hK => ?_ | (refine n2 ?_ ?_ <;> intro h <;> first | subst (h : _ = true) | subst (h : _ = false) | (simp only [FX, LX, hx, hp, hpe, k1] at h) | skip) | refine And.intro ?_ ?_ | refine nK ‹Imp _ _› ?_) | exact nl | fail
          all_goals (rw [z1, z2, z3]; rfl)
      by_cases k2 : kidsN x.op = 2
      · have ha := ka (by omega)
        have hb := kb (by omega)
        by_cases h1 : x.b = (i : Int) - 1 ∧ x.a = bg.getD x.b.toNat 0 - 1
        · have hn : nstep bg dp i x = some (bg.getD x.a.toNat 0, max (dp.getD x.a.toNat 0) (dp.getD x.b.toNat 0) + 1) := by unfold nstep; rw [if_pos hp, if_neg k1, if_pos k2, if_pos h1]
          have hd1 := hdb x.a.toNat (by omega)
          have hd2 := hdb x.b.toNat (by omega)
          have hb1 := hbb x.b.toNat (by omega)
          rw [hn] at hsu
          obtain ⟨h11, h12⟩ := h1
          repeat' first | (with_reducible first | refine nx' ?_ (by simp -implicitDefEqProofs (disch := omega) only [go_sem, hx, hp, hpe, k2, ite_max]; exact rfl) | refine n0 ?_ | refine rD ?_ | refine n1 ?_ | refine nilB_i fun b hb => ?_ | refine nP ?_ ?_ | refine nS fun K hK => ?_ | (refine n2 ?_ ?_ <;> intro h <;> first | subst (h : _ = true) | subst (h : _ = false) | (simp only [FX, LX, hx, hp, hpe, k2, ite_max] at h) | skip) | refine And.intro ?_ ?_ | refine nK ‹Imp _ _› ?_) | exact nl | fail
          all_goals exact ⟨(i + 1, _, _), by simp only; omega, ⟨by simp only; omega, hsu⟩, Weak.cu⟩
        · have hn : nstep bg dp i x = none := by unfold nstep; rw [if_pos hp, if_neg k1, if_pos k2, if_neg h1]
          rw [hn] at hsu
          have hb1 := hbb x.b.toNat (by omega)
          have hz := shp_none hsu l.length (by omega)
          obtain ⟨z1, z2, z3⟩ := sh_none hz
          repeat' first | (with_reducible first | refine nx' ?_ (by simp -implicitDefEqProofs (disch := omega) only [go_sem, hx, hp, hpe, k2, ite_max]; exact rfl) | refine n0 ?_ | refine rD ?_ | refine n1 ?_ | refine nilB_i fun b hb => ?_ | refine nP ?_ ?_ | refine nS fun K hK => ?_ | (refine n2 ?_ ?_ <;> intro h <;> first | subst (h : _ = true) | subst (h : _ = false) | (simp only [FX, LX, hx, hp, hpe, k2, ite_max] at h) | skip) | refine And.intro ?_ ?_ | refine nK ‹Imp _ _› ?_) | exact nl | fail
          all_goals (rw [z1, z2, z3]; rfl)
      · have hn : nstep bg dp i x = some ((i : Int), 1) := by unfold nstep; rw [if_pos hp, if_neg k1, if_neg k2]
        rw [hn] at hsu
        have k1' : kidsN x.op ≠ 1 := k1
        repeat' first | (with_reducible first | refine nx' ?_ (by simp -implicitDefEqProofs (disch := omega) only [go_sem, hx, hp, hpe]; exact rfl) | refine n0 ?_ | refine rD ?_ | refine n1 ?_ | refine nilB_i fun b hb => ?_ | refine nP ?_ ?_ | refine nS fun K hK => ?_ | (refine n2 ?_ ?_ <;> intro h <;> first | subst (h : _ = true) | subst (h : _ = false) | (simp only [FX, LX, hx, hp, hpe] at h) | skip) | refine And.intro ?_ ?_ | refine nK ‹Imp _ _› ?_) | exact nl | fail
        all_goals exact ⟨(i + 1, _, _), by simp only; omega, ⟨by simp only; omega, hsu⟩, Weak.cu⟩
    · have hn : nstep bg dp i x = none := by unfold nstep; rw [if_neg hp]
      rw [hn] at hsu
      have hz := shp_none hsu l.length (by omega)
      obtain ⟨z1, z2, z3⟩ := sh_none hz
      have hpe : plOk ⟨x.op, x.a, x.b, x.n⟩ i = false := by simpa using hp
      repeat' first | (with_reducible first | refine nx' ?_ (by simp -implicitDefEqProofs (disch := omega) only [go_sem, hx, hpe]; exact rfl) | refine n0 ?_ | refine rD ?_ | refine n1 ?_ | refine nilB_i fun b hb => ?_ | refine nP ?_ ?_ | refine nS fun K hK => ?_ | (refine n2 ?_ ?_ <;> intro h <;> first | subst (h : _ = true) | subst (h : _ = false) | (simp only [FX, LX, hx, hpe] at h) | skip) | refine And.intro ?_ ?_ | refine nK ‹Imp _ _› ?_) | exact nl | fail
      all_goals (rw [z1, z2, z3]; rfl)
  · obtain rfl : i = l.length := by omega
    obtain ⟨z1, z2, z3⟩ := sh_some hs
    repeat' first | (with_reducible first | refine nx' ?_ | refine n0 ?_ | refine rD ?_ | refine n1 ?_ | refine nilB_i fun b hb => ?_ | refine nP ?_ ?_ | refine nS fun K hK => ?_ | (refine n2 ?_ ?_ <;> intro h <;> first | subst (h : _ = true) | subst (h : _ = false) | skip) | refine And.intro ?_ ?_ | refine nK ‹Imp _ _› ?_) | exact nl | fail
    rw [z1, z2, z3]
end Go.PL
