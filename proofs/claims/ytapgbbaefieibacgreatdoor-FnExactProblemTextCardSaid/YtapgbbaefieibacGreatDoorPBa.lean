/- A plain machine, sound for the given model, and contracts of functions over it, part 34: PBa. Nothing is assumed. -/
import Derived.Test.YtapgbbaefieibacGreatDoorG32
import Derived.Test.YtapgbbaefieibacGreatDoorG33
set_option linter.unusedSimpArgs false
set_option linter.unusedVariables false
set_option linter.unusedSectionVars false
/- PBa -/
namespace Go.PL
open Go Go.Proofs
set_option maxRecDepth 10000
set_option maxHeartbeats 4000000
set_option linter.unusedSimpArgs false
set_option linter.unusedVariables false
theorem cmpC_c {r s : Rt} (hr : okRat r = true) (hs : okRat s = true) : CC 96 [.d (encR r), .d (encR s)] [] (.d (.i (cmpI (toQ r) (toQ s)))) [] := by
  obtain ⟨p1, p2, p3⟩ := okRat_toQ hr
  obtain ⟨q1, q2, q3⟩ := okRat_toQ hs
  have e1 : encR r = .agg [.b (toQ r).neg, encD (digs (toQ r).n), encD (digs (toQ r).d)] := by rw [← p1, ← p2]; rfl
  have e2 : encR s = .agg [.b (toQ s).neg, encD (digs (toQ s).n), encD (digs (toQ s).d)] := by rw [← q1, ← q2]; rfl
  rw [e1, e2]
  exact Con.ok (C := CC) ⟨p3.mono (by omega), q3.mono (by omega)⟩
/-- At most as great. -/
def leR (r s : Rt) : Prop := cmpQ (toQ r) (toQ s) ≤ 0
instance (r s : Rt) : Decidable (leR r s) := by unfold leR; infer_instance
theorem cmpI_pos {r s : Rt} (hr : okRat r = true) (hs : okRat s = true) : 0 < cmpI (toQ r) (toQ s) ↔ ¬ leR r s := by
  obtain ⟨_, _, p3⟩ := okRat_toQ hr
  obtain ⟨_, _, q3⟩ := okRat_toQ hs
  have h := cmpI_sign (a := toQ r) (b := toQ s) p3.2.2 q3.2.2
  unfold leR
  rw [← h, sign_if]
  repeat' split
  all_goals omega
def leAll (x y : List Rt) : Prop := ∀ t, t < x.length → leR (x.getD t rt0) (y.getD t rt0)
instance (x y : List Rt) : Decidable (leAll x y) := by unfold leAll; infer_instance
instance (x y : List Rt) : Con CC 77 [.d (.sl (x.map encR)), .d (.sl (y.map encR))] (okVec x = true ∧ okVec y = true ∧ x.length = y.length) (.d (.b (decide (leAll x y)))) := by
  constructor; intro ⟨hx, hy, hl⟩
  obtain ⟨x1, x2⟩ := okVec_parts hx
  obtain ⟨y1, y2⟩ := okVec_parts hy
  refine Den.pureI Tryz.func77 rfl 2 [.tmp 4] (by kernel_rfl) rfl rfl (by simp only [initE_nil, initE_cons, Nat.reduceAdd]; exact rfl) ?_
  repeat' first | (with_reducible first | refine nx' ?_ | refine n0 ?_ | refine rD ?_ | refine n1 ?_ | refine nilB_i fun b hb => ?_ | refine nP ?_ ?_ | refine nS fun K hK => ?_ | (refine n2 ?_ ?_ <;> intro h <;> first | subst (h : _ = true) | subst (h : _ = false) | skip) | refine And.intro ?_ ?_ | refine nK ‹Imp _ _› ?_) | exact nl | fail
  refine Wp.loopR (fun i : Nat => ⟨[(1, .d (.sl (y.map encR))), (7, .d (.sl (x.map encR))), (8, .d (.i x.length)), (9, .d (.i i))], []⟩) (fun i => x.length - i) (fun i => i ≤ x.length ∧ ∀ t, t < i → leR (x.getD t rt0) (y.getD t rt0)) 0 Weak.lo ⟨by simp, by intro t ht; omega⟩ ?_
  rintro i ⟨hi, hd⟩ K hK
  by_cases hil : i < x.length
  · have kx := x2 _ (getD_mem rt0 hil)
    have ky := y2 _ (getD_mem rt0 (show i < y.length by omega))
    have c1 : CC 96 [.d (.agg [.b (x.getD i rt0).neg, .sl ((x.getD i rt0).num.map .i), .sl ((x.getD i rt0).den.map .i)]), .d (.agg [.b (y.getD i rt0).neg, .sl ((y.getD i rt0).num.map .i), .sl ((y.getD i rt0).den.map .i)])] [] (.d (.i (cmpI (toQ (x.getD i rt0)) (toQ (y.getD i rt0))))) [] := cmpC_c kx ky
    have hz := cmpI_pos kx ky
    repeat' first | (with_reducible first | refine nx' ?_ | refine n0 ?_ | refine rD ?_ | refine n1 ?_ | refine nilB_i fun b hb => ?_ | refine nPc (c1) ?_ | refine nP ?_ ?_ | refine nS fun K hK => ?_ | (refine n2 ?_ ?_ <;> intro h <;> first | subst (h : _ = true) | subst (h : _ = false) | skip) | refine And.intro ?_ ?_ | refine nK ‹Imp _ _› ?_) | exact nl | fail
    · congr 3; rw [eq_comm, decide_eq_false_iff_not]; exact fun hh => hz.1 h (hh i hil)
    · exact ⟨i + 1, by omega, ⟨by omega, fun t ht => by rcases (show t < i ∨ t = i by omega) with e | e; exact hd t e; rw [e]; exact Decidable.not_not.1 fun hh => absurd (hz.2 hh) (by omega)⟩, Weak.cu⟩
  · repeat' first | (with_reducible first | refine nx' ?_ | refine n0 ?_ | refine rD ?_ | refine n1 ?_ | refine nilB_i fun b hb => ?_ | refine nP ?_ ?_ | refine nS fun K hK => ?_ | (refine n2 ?_ ?_ <;> intro h <;> first | subst (h : _ = true) | subst (h : _ = false) | skip) | refine And.intro ?_ ?_ | refine nK ‹Imp _ _› ?_) | exact nl | fail
    congr 3; rw [eq_comm, decide_eq_true_eq]; exact fun t ht => hd t (by omega)
abbrev encV (x : List Rt) : D := .sl (x.map encR)
instance : Enc encV 1 ([] : List Rt) := ⟨fun _ => rfl, fun x => by simp [D.cells, D.one]⟩
theorem arr_V1 {x : List Rt} {fz : Bool} : Ob.arr 1 [D.sl (x.map encR)] fz = .arr 1 ([x].map encV) fz := rfl
theorem arr_V2 {x y : List Rt} {fz : Bool} : Ob.arr 1 [D.sl (x.map encR), D.sl (y.map encR)] fz = .arr 1 ([x, y].map encV) fz := rfl
theorem arr_V3 {x y z : List Rt} {fz : Bool} : Ob.arr 1 [D.sl (x.map encR), D.sl (y.map encR), D.sl (z.map encR)] fz = .arr 1 ([x, y, z].map encV) fz := rfl
theorem encV_eq {x : List Rt} : encV x = .sl (x.map encR) := rfl
attribute [go_sem] arr_V1 arr_V2 arr_V3 encV_eq
theorem take_lenV {l : List (List Rt)} {i : Nat} (h : i < l.length) : (l.take i).map (fun x => (x.length : Int)) ++ [((l.getD i []).length : Int)] = (l.take (i + 1)).map (fun x => (x.length : Int)) := by
  rw [List.take_add_one, List.getElem?_eq_getElem h, List.map_append, List.getD, List.getElem?_eq_getElem h]; rfl
def bVs (l : List (List Rt)) : Prop := l.length ≤ 1048576 ∧ ∀ x ∈ l, bV x
theorem bVs.get {l : List (List Rt)} (h : bVs l) {i : Nat} (hi : i < l.length) : bV (l.getD i []) := h.2 _ (getD_mem _ hi)
instance (l : List (List Rt)) : Con CC 95 [.d (.sl (l.map encV))] (bVs l) (.d (.i (longI 4096 (l.map fun x => (x.length : Int))))) := by
  constructor; intro hb
  have hl0 := hb.1
  refine Den.pureI Tryz.func95 rfl 1 [.tmp 2] (by kernel_rfl) rfl rfl (by simp only [initE_nil, initE_cons, Nat.reduceAdd]; exact rfl) ?_
  repeat' first | (with_reducible first | refine nx' ?_ | refine n0 ?_ | refine rD ?_ | refine n1 ?_ | refine nilB_i fun b hb => ?_ | refine nP ?_ ?_ | refine nS fun K hK => ?_ | (refine n2 ?_ ?_ <;> intro h <;> first | subst (h : _ = true) | subst (h : _ = false) | skip) | refine And.intro ?_ ?_ | refine nK ‹Imp _ _› ?_) | exact nl | fail
  refine Wp.loopR (fun x : Nat × List Int => ⟨[(3, .msl 0 0 x.2.length), (7, .d (.sl (l.map encV))), (8, .d (.i l.length)), (9, .d (.i x.1))], [.arr 1 (x.2.map .i) false]⟩) (fun x => l.length - x.1) (fun x => x.1 ≤ l.length ∧ x.2 = (l.take x.1).map fun x => (x.length : Int)) (0, []) Weak.lo ⟨by simp, rfl⟩ ?_
  rintro ⟨i, ws⟩ ⟨hi, hw⟩ K hK
  simp only at hi hw ⊢
  have hlt : ws.length = i := by rw [hw, List.length_map, List.length_take]; omega
  by_cases hil : i < l.length
  · have e := take_lenV hil
    have hbi := (hb.get hil).1
    repeat' first | (with_reducible first | refine nx' ?_ | refine n0 ?_ | refine rD ?_ | refine n1 ?_ | refine nilB_i fun b hb => ?_ | refine nP ?_ ?_ | refine nS fun K hK => ?_ | (refine n2 ?_ ?_ <;> intro h <;> first | subst (h : _ = true) | subst (h : _ = false) | skip) | refine And.intro ?_ ?_ | refine nK ‹Imp _ _› ?_) | exact nl | fail
    exact ⟨(i + 1, ws ++ [((l.getD i []).length : Int)]), by simp only; omega, ⟨by simp only; omega, by rw [hw, e]⟩, Weak.cu⟩
  · obtain rfl : i = l.length := by omega
    rw [List.take_length] at hw
    repeat' first | (with_reducible first | refine nx' ?_ | refine n0 ?_ | refine rD ?_ | refine n1 ?_ | refine nilB_i fun b hb => ?_ | refine nP ?_ ?_ | refine nS fun K hK => ?_ | (refine n2 ?_ ?_ <;> intro h <;> first | subst (h : _ = true) | subst (h : _ = false) | skip) | refine And.intro ?_ ?_ | refine nK ‹Imp _ _› ?_) | exact nl | fail
    rw [hw]
/-- What vecsCode says. -/
def vcode (l : List (List Rt)) : Int := if longI 4096 (l.map fun x => (x.length : Int)) ≠ 0 then longI 4096 (l.map fun x => (x.length : Int)) else if (∀ t, t < l.length → okVec (l.getD t []) = true) then (if (∀ t, t < l.length → (l.getD t []).length = (l.getD 0 []).length) then 0 else 8) else 1
instance (l : List (List Rt)) : Con CC 76 [.d (.sl (l.map encV))] (bVs l) (.d (.i (vcode l))) := by
  constructor; intro hb
  have hl0 := hb.1
  refine Den.pureI Tryz.func76 rfl 1 [.tmp 2] (by kernel_rfl) rfl rfl (by simp only [initE_nil, initE_cons, Nat.reduceAdd]; exact rfl) ?_
  repeat' first | (with_reducible first | refine nx' ?_ | refine n0 ?_ | refine rD ?_ | refine n1 ?_ | refine nilB_i fun b hb => ?_ | refine nP ?_ ?_ | refine nS fun K hK => ?_ | (refine n2 ?_ ?_ <;> intro h <;> first | subst (h : _ = true) | subst (h : _ = false) | skip) | refine And.intro ?_ ?_ | refine nK ‹Imp _ _› ?_) | exact nl | fail
  · unfold vcode; rw [if_pos h]
  refine Wp.loopR (fun i : Nat => ⟨[(0, .d (.sl (l.map encV))), (13, .d (.sl (l.map encV))), (14, .d (.i l.length)), (15, .d (.i i))], []⟩) (fun i => l.length - i) (fun i => i ≤ l.length ∧ ∀ t, t < i → okVec (l.getD t []) = true) 0 Weak.lo ⟨by simp, by intro t ht; omega⟩ ?_
  rintro i ⟨hi, hd⟩ K hK
  by_cases hil : i < l.length
  · have hbi := hb.get hil
    repeat' first | (with_reducible first | refine nx' ?_ | refine n0 ?_ | refine rD ?_ | refine n1 ?_ | refine nilB_i fun b hb => ?_ | refine nP ?_ ?_ | refine nS fun K hK => ?_ | (refine n2 ?_ ?_ <;> intro h <;> first | subst (h : _ = true) | subst (h : _ = false) | skip) | refine And.intro ?_ ?_ | refine nK ‹Imp _ _› ?_) | exact nl | fail
    · unfold vcode; rw [if_neg (by simpa using ‹longI 4096 _ = 0›), if_neg fun hh => by have := hh i hil; rw [h] at this; cases this]
    · exact ⟨i + 1, by omega, ⟨by omega, fun t ht => by rcases (show t < i ∨ t = i by omega) with e | e; exact hd t e; rw [e]; exact h⟩, Weak.lo⟩
  · obtain rfl : i = l.length := by omega
    repeat' first | (with_reducible first | refine nx' ?_ | refine n0 ?_ | refine rD ?_ | refine n1 ?_ | refine nilB_i fun b hb => ?_ | refine nP ?_ ?_ | refine nS fun K hK => ?_ | (refine n2 ?_ ?_ <;> intro h <;> first | subst (h : _ = true) | subst (h : _ = false) | skip) | refine And.intro ?_ ?_ | refine nK ‹Imp _ _› ?_) | exact nl | fail
    refine Wp.loopR (fun i : Nat => ⟨[(0, .d (.sl (l.map encV))), (23, .d (.sl (l.map encV))), (24, .d (.i l.length)), (25, .d (.i i))], []⟩) (fun i => l.length - i) (fun i => i ≤ l.length ∧ ∀ t, t < i → (l.getD t []).length = (l.getD 0 []).length) 0 Weak.lo ⟨by simp, by intro t ht; omega⟩ ?_
    rintro i ⟨hi2, hd2⟩ K2 hK2
    by_cases hil2 : i < l.length
    · have hbi := (hb.get hil2).1
      have hb0 := (hb.get (show 0 < l.length by omega)).1
      repeat' first | (with_reducible first | refine nx' ?_ | refine n0 ?_ | refine rD ?_ | refine n1 ?_ | refine nilB_i fun b hb => ?_ | refine nP ?_ ?_ | refine nS fun K hK => ?_ | (refine n2 ?_ ?_ <;> intro h <;> first | subst (h : _ = true) | subst (h : _ = false) | skip) | refine And.intro ?_ ?_ | refine nK ‹Imp _ _› ?_) | exact nl | fail
      · unfold vcode; rw [if_neg (by simpa using ‹longI 4096 _ = 0›), if_pos hd, if_neg fun hh => h (by rw [hh i hil2])]
      · exact ⟨i + 1, by omega, ⟨by omega, fun t ht => by rcases (show t < i ∨ t = i by omega) with e | e; exact hd2 t e; rw [e]; omega⟩, Weak.lo⟩
    · obtain rfl : i = l.length := by omega
      repeat' first | (with_reducible first | refine nx' ?_ | refine n0 ?_ | refine rD ?_ | refine n1 ?_ | refine nilB_i fun b hb => ?_ | refine nP ?_ ?_ | refine nS fun K hK => ?_ | (refine n2 ?_ ?_ <;> intro h <;> first | subst (h : _ = true) | subst (h : _ = false) | skip) | refine And.intro ?_ ?_ | refine nK ‹Imp _ _› ?_) | exact nl | fail
      unfold vcode; rw [if_neg (by simpa using ‹longI 4096 _ = 0›), if_pos hd, if_pos hd2]
/-- The greatest variable's number and 1. -/
def dimT (l : List Nd) : Nat → Int
  | 0 => 0
  | i + 1 => if (l.getD i nd0).op = 2 then max (dimT l i) ((l.getD i nd0).n + 1) else dimT l i
def dimN (l : List Nd) : Int := dimT l l.length
theorem okE_node {l : List Nd} (h : okE l = true) {i : Nat} (hi : i < l.length) : plOk (l.getD i nd0) i = true := by
  unfold okE at h
  rw [Bool.and_eq_true] at h
  cases hs : shp l l.length with
  | none => rw [hs] at h; cases h.2
  | some q =>
    obtain ⟨bg, dp⟩ := q
    have := (shp_spec hs).at_ i hi
    unfold nstep at this
    split at this
    · assumption
    · cases this
theorem okE_var {l : List Nd} (h : okE l = true) {i : Nat} (hi : i < l.length) (h2 : (l.getD i nd0).op = 2) : 0 ≤ (l.getD i nd0).n ∧ (l.getD i nd0).n ≤ 3 := by
  have := okE_node h hi
  generalize l.getD i nd0 = x at *
  unfold plOk numOk at this
  rw [h2] at this
  simp at this
  omega
theorem okE_len {l : List Nd} (h : okE l = true) : 1 ≤ l.length ∧ l.length ≤ 60 := by
  unfold okE at h
  rw [Bool.and_eq_true, decide_eq_true_eq] at h
  exact h.1
theorem dimT_bnd {l : List Nd} (h : okE l = true) : ∀ i, i ≤ l.length → 0 ≤ dimT l i ∧ dimT l i ≤ 4
  | 0, _ => by simp [dimT]
  | i + 1, hi => by
    have ih := dimT_bnd h i (by omega)
    unfold dimT
    split
    · rename_i h2
      have := okE_var h (show i < l.length by omega) h2
      omega
    · exact ih
instance (l : List Nd) : Con CC 73 [.d (.sl (l.map encNd))] (okE l = true) (.d (.i (dimN l))) := by
  constructor; intro ho
  have hl := okE_len ho
  refine Den.pureI Tryz.func73 rfl 1 [.tmp 2] (by kernel_rfl) rfl rfl (by simp only [initE_nil, initE_cons, Nat.reduceAdd]; exact rfl) ?_
  repeat' first | (with_reducible first | refine nx' ?_ | refine n0 ?_ | refine rD ?_ | refine n1 ?_ | refine nilB_i fun b hb => ?_ | refine nP ?_ ?_ | refine nS fun K hK => ?_ | (refine n2 ?_ ?_ <;> intro h <;> first | subst (h : _ = true) | subst (h : _ = false) | skip) | refine And.intro ?_ ?_ | refine nK ‹Imp _ _› ?_) | exact nl | fail
  refine Wp.loopR (fun i : Nat => ⟨[(3, .d (.i (dimT l i))), (6, .d (.sl (l.map encNd))), (7, .d (.i l.length)), (8, .d (.i i))], []⟩) (fun i => l.length - i) (fun i => i ≤ l.length) 0 (Weak.low (by simp -implicitDefEqProofs (disch := omega) only [go_sem, sub_nil, sub_cons, LX, dimT]; try ((repeat' refine And.intro ?_ ?_) <;> first | rfl | trivial | (congr 3; omega) | (congr 1; omega)))) (by simp) ?_
  rintro i hi K hK
  have hb := dimT_bnd ho i hi
  by_cases hil : i < l.length
  · by_cases h2 : (l.getD i nd0).op = 2
    · have hv := okE_var ho hil h2
      have e : dimT l (i + 1) = max (dimT l i) ((l.getD i nd0).n + 1) := by rw [dimT, if_pos h2]
      repeat' first | (with_reducible first | refine nx' ?_ (by simp -implicitDefEqProofs (disch := omega) only [go_sem, h2, ite_max]; exact rfl) | refine n0 ?_ | refine rD ?_ | refine n1 ?_ | refine nilB_i fun b hb => ?_ | refine nP ?_ ?_ | refine nS fun K hK => ?_ | (refine n2 ?_ ?_ <;> intro h <;> first | subst (h : _ = true) | subst (h : _ = false) | (simp only [FX, LX, h2, ite_max] at h) | skip) | refine And.intro ?_ ?_ | refine nK ‹Imp _ _› ?_) | exact nl | fail
      exact ⟨i + 1, by omega, by omega, (Weak.cut (by simp -implicitDefEqProofs (disch := omega) only [go_sem, sub_nil, sub_cons, LX, e]; try ((repeat' refine And.intro ?_ ?_) <;> first | rfl | trivial | (congr 3; omega) | (congr 1; omega))) rfl (by simp) rfl rfl)⟩
    · have e : dimT l (i + 1) = dimT l i := by rw [dimT, if_neg h2]
      repeat' first | (with_reducible first | refine nx' ?_ | refine n0 ?_ | refine rD ?_ | refine n1 ?_ | refine nilB_i fun b hb => ?_ | refine nP ?_ ?_ | refine nS fun K hK => ?_ | (refine n2 ?_ ?_ <;> intro h <;> first | subst (h : _ = true) | subst (h : _ = false) | skip) | refine And.intro ?_ ?_ | refine nK ‹Imp _ _› ?_) | exact nl | fail
      exact ⟨i + 1, by omega, by omega, (Weak.cut (by simp -implicitDefEqProofs (disch := omega) only [go_sem, sub_nil, sub_cons, LX, e]; try ((repeat' refine And.intro ?_ ?_) <;> first | rfl | trivial | (congr 3; omega) | (congr 1; omega))) rfl (by simp) rfl rfl)⟩
  · obtain rfl : i = l.length := by omega
    repeat' first | (with_reducible first | refine nx' ?_ | refine n0 ?_ | refine rD ?_ | refine n1 ?_ | refine nilB_i fun b hb => ?_ | refine nP ?_ ?_ | refine nS fun K hK => ?_ | (refine n2 ?_ ?_ <;> intro h <;> first | subst (h : _ = true) | subst (h : _ = false) | skip) | refine And.intro ?_ ?_ | refine nK ‹Imp _ _› ?_) | exact nl | fail
    rfl
instance (l : List Nd) : Con CC 34 [.d (.agg [.sl (l.map encNd)])] (okE l = true) (.d (.i (dimN l))) := by
  constructor; intro ho
  have hl := okE_len ho
  refine Den.pureI Tryz.func34 rfl 1 [.tmp 2] (by kernel_rfl) rfl rfl (by simp only [initE_nil, initE_cons, Nat.reduceAdd]; exact rfl) ?_
  repeat' first | (with_reducible first | refine nx' ?_ | refine n0 ?_ | refine rD ?_ | refine n1 ?_ | refine nilB_i fun b hb => ?_ | refine nP ?_ ?_ | refine nS fun K hK => ?_ | (refine n2 ?_ ?_ <;> intro h <;> first | subst (h : _ = true) | subst (h : _ = false) | skip) | refine And.intro ?_ ?_ | refine nK ‹Imp _ _› ?_) | exact nl | fail
  refine Wp.loopR (fun i : Nat => ⟨[(1, .ref 0 0 0), (3, .d (.i (dimT l i))), (4, .d (.i i))], [.var [.d (.sl (l.map encNd))] false]⟩) (fun i => l.length - i) (fun i => i ≤ l.length) 0 (Weak.low (by simp -implicitDefEqProofs (disch := omega) only [go_sem, sub_nil, sub_cons, LX, dimT]; try ((repeat' refine And.intro ?_ ?_) <;> first | rfl | trivial | (congr 3; omega) | (congr 1; omega)))) (by simp) ?_
  rintro i hi K hK
  have hb := dimT_bnd ho i hi
  by_cases hil : i < l.length
  · by_cases h2 : (l.getD i nd0).op = 2
    · have hv := okE_var ho hil h2
      have e : dimT l (i + 1) = max (dimT l i) ((l.getD i nd0).n + 1) := by rw [dimT, if_pos h2]
      repeat' first | (with_reducible first | refine nx' ?_ (by simp -implicitDefEqProofs (disch := omega) only [go_sem, h2, ite_max]; exact rfl) | refine n0 ?_ | refine rD ?_ | refine n1 ?_ | refine nilB_i fun b hb => ?_ | refine nP ?_ ?_ | refine nS fun K hK => ?_ | (refine n2 ?_ ?_ <;> intro h <;> first | subst (h : _ = true) | subst (h : _ = false) | (simp only [FX, LX, h2, ite_max] at h) | skip) | refine And.intro ?_ ?_ | refine nK ‹Imp _ _› ?_) | exact nl | fail
      exact ⟨i + 1, by omega, by omega, (Weak.low (by simp -implicitDefEqProofs (disch := omega) only [go_sem, sub_nil, sub_cons, LX, e]; try ((repeat' refine And.intro ?_ ?_) <;> first | rfl | trivial | (congr 3; omega) | (congr 1; omega))))⟩
    · have e : dimT l (i + 1) = dimT l i := by rw [dimT, if_neg h2]
      repeat' first | (with_reducible first | refine nx' ?_ | refine n0 ?_ | refine rD ?_ | refine n1 ?_ | refine nilB_i fun b hb => ?_ | refine nP ?_ ?_ | refine nS fun K hK => ?_ | (refine n2 ?_ ?_ <;> intro h <;> first | subst (h : _ = true) | subst (h : _ = false) | skip) | refine And.intro ?_ ?_ | refine nK ‹Imp _ _› ?_) | exact nl | fail
      exact ⟨i + 1, by omega, by omega, (Weak.low (by simp -implicitDefEqProofs (disch := omega) only [go_sem, sub_nil, sub_cons, LX, e]; try ((repeat' refine And.intro ?_ ?_) <;> first | rfl | trivial | (congr 3; omega) | (congr 1; omega))))⟩
  · obtain rfl : i = l.length := by omega
    repeat' first | (with_reducible first | refine nx' ?_ | refine n0 ?_ | refine rD ?_ | refine n1 ?_ | refine nilB_i fun b hb => ?_ | refine nP ?_ ?_ | refine nS fun K hK => ?_ | (refine n2 ?_ ?_ <;> intro h <;> first | subst (h : _ = true) | subst (h : _ = false) | skip) | refine And.intro ?_ ?_ | refine nK ‹Imp _ _› ?_) | exact nl | fail
    rfl
end Go.PL
