/- A plain machine, sound for the given model, and contracts of functions over it, part 35: PBb. Nothing is assumed. -/
import Derived.Test.YtapgbbaefieibacGreatDoorPBa
set_option linter.unusedSimpArgs false
set_option linter.unusedVariables false
set_option linter.unusedSectionVars false
/- PBb -/
namespace Go.PL
open Go Go.Proofs
set_option maxRecDepth 10000
set_option maxHeartbeats 4000000
set_option linter.unusedSimpArgs false
set_option linter.unusedVariables false
structure Pb where
  f : List Nd
  start : List Rt
  low : List Rt
  high : List Rt
  solver : Int
  eps : Rt
  iter : Int
  back : Int
deriving DecidableEq
abbrev pbD (f : List Nd) (s l h : List Rt) (so : Int) (g : Bool) (u v : List Int) (it ba : Int) : D := .agg [.sl (f.map encNd), .sl (s.map encR), .sl (l.map encR), .sl (h.map encR), .i so, .b g, .sl (u.map .i), .sl (v.map .i), .i it, .i ba]
abbrev encPb (p : Pb) : D := pbD p.f p.start p.low p.high p.solver p.eps.neg p.eps.num p.eps.den p.iter p.back
def bPb (p : Pb) : Prop := p.f.length ≤ 1048576 ∧ bV p.start ∧ bV p.low ∧ bV p.high ∧ bR p.eps
def pPb (p : Pb) : Prop := p.f.length < 1152921504606846976 ∧ pV p.start ∧ pV p.low ∧ pV p.high ∧ pR p.eps
def szPb (p : Pb) : Nat := p.f.length + (szV p.start + (szV p.low + (szV p.high + szR p.eps)))
theorem szL_2 {left : Int} {m n : Nat} (h : ¬ szL left m < 0) : szL (szL left m) n = szL left (m + n) := szL_add
instance (f : List Nd) (s l h : List Rt) (so : Int) (g : Bool) (u v : List Int) (it ba : Int) (left : Int) : Con CC 4 [.d (pbD f s l h so g u v it ba), .d (.i left)] (rm left ∧ pPb ⟨f, s, l, h, so, ⟨g, u, v⟩, it, ba⟩) (.d (.i (szL left (szPb ⟨f, s, l, h, so, ⟨g, u, v⟩, it, ba⟩)))) := by
  constructor; intro ⟨hl, h1, h2, h3, h4, h5⟩
  simp only at h1 h2 h3 h4 h5
  have r1 := szL_rm (n := f.length) hl
  have r2 := szL_rm (n := szV s) r1
  have r3 := szL_rm (n := szV l) r2
  have r4 := szL_rm (n := szV h) r3
  have e : szL left (szPb ⟨f, s, l, h, so, ⟨g, u, v⟩, it, ba⟩) = szL (szL (szL (szL (szL left f.length) (szV s)) (szV l)) (szV h)) (szR ⟨g, u, v⟩) := by
    simp only [szL_add, szPb, Nat.add_assoc]
  rw [e]
  have hneg : ∀ {x : Int} {n : Nat}, x < 0 → szL x n = -1 := fun {x n} hx => by unfold szL; rw [if_pos (by omega)]
  have h2' : s.length < 1152921504606846976 := h2.1
  refine Den.pureI Tryz.func4 rfl 2 [.tmp 4] (by kernel_rfl) rfl rfl (by simp only [initE_nil, initE_cons, Nat.reduceAdd]; exact rfl) ?_
  repeat' first | (with_reducible first | refine nx' ?_ | refine n0 ?_ | refine rD ?_ | refine n1 ?_ | refine nilB_i fun b hb => ?_ | refine nP ?_ ?_ | refine nS fun K hK => ?_ | (refine n2 ?_ ?_ <;> intro h <;> first | subst (h : _ = true) | subst (h : _ = false) | skip) | refine And.intro ?_ ?_ | refine nK ‹Imp _ _› ?_) | exact nl | fail
  all_goals (first | (refine congrArg V.d (congrArg D.i (Eq.symm ?_)); simp only [hneg h, hneg (show (-1 : Int) < 0 by decide)]; done) | (rw [szL_neg' (by assumption)]; done) | (rw [hneg (by assumption)]; done) | skip)
instance (f : List Nd) (s l h : List Rt) (so : Int) (g : Bool) (u v : List Int) (it ba : Int) : Con CC 6 [.d (pbD f s l h so g u v it ba)] (bPb ⟨f, s, l, h, so, ⟨g, u, v⟩, it, ba⟩) (.d (pbD f s l h so g u v it ba)) := by
  constructor; intro ⟨h1, h2, h3, h4, h5⟩
  simp only at h1 h2 h3 h4 h5
  refine Den.pureI Tryz.func6 rfl 1 [.cell 2 41] (by kernel_rfl) rfl rfl (by simp only [initE_nil, initE_cons, Nat.reduceAdd]; exact rfl) ?_
  repeat' first | (with_reducible first | refine nx' ?_ | refine n0 ?_ | refine rD ?_ | refine n1 ?_ | refine nilB_i fun b hb => ?_ | refine nP ?_ ?_ | refine nS fun K hK => ?_ | (refine n2 ?_ ?_ <;> intro h <;> first | subst (h : _ = true) | subst (h : _ = false) | skip) | refine And.intro ?_ ?_ | refine nK ‹Imp _ _› ?_) | exact nl | fail
  all_goals first | exact h5.1 | exact h5.2
instance (f : List Nd) (s l h : List Rt) (so : Int) (g : Bool) (u v : List Int) (it ba : Int) (f' : List Nd) (s' l' h' : List Rt) (so' : Int) (g' : Bool) (u' v' : List Int) (it' ba' : Int) : Con CC 9 [.d (pbD f s l h so g u v it ba), .d (pbD f' s' l' h' so' g' u' v' it' ba')]
    (bPb ⟨f, s, l, h, so, ⟨g, u, v⟩, it, ba⟩ ∧ bPb ⟨f', s', l', h', so', ⟨g', u', v'⟩, it', ba'⟩) (.d (.b (decide (Pb.mk f s l h so ⟨g, u, v⟩ it ba = ⟨f', s', l', h', so', ⟨g', u', v'⟩, it', ba'⟩)))) := by
  constructor; intro ⟨⟨a1, a2, a3, a4, a5⟩, b1, b2, b3, b4, b5⟩
  simp only at a1 a2 a3 a4 a5 b1 b2 b3 b4 b5
  refine Den.pureI Tryz.func9 rfl 2 [.tmp 4] (by kernel_rfl) rfl rfl (by simp only [initE_nil, initE_cons, Nat.reduceAdd]; exact rfl) ?_
  repeat' first | (with_reducible first | refine nx' ?_ | refine n0 ?_ | refine rD ?_ | refine n1 ?_ | refine nilB_i fun b hb => ?_ | refine nP ?_ ?_ | refine nS fun K hK => ?_ | (refine n2 ?_ ?_ <;> intro h <;> first | subst (h : _ = true) | subst (h : _ = false) | skip) | refine And.intro ?_ ?_ | refine nK ‹Imp _ _› ?_) | exact nl | fail
  all_goals (congr 3; simp [*])
/-- Is it a problem? -/
def okPb (p : Pb) : Bool := okE p.f && okVec p.start && decide (dimN p.f ≤ p.start.length ∧ 1 ≤ p.solver ∧ p.solver ≤ 4) && okRat p.eps && !p.eps.neg && decide (0 ≤ p.iter ∧ p.iter ≤ 6 ∧ 0 ≤ p.back ∧ p.back ≤ 30) &&
  ((decide (p.low.length = 0) && decide (p.high.length = 0)) || (okVec p.low && okVec p.high && decide (p.low.length = p.start.length ∧ p.high.length = p.start.length ∧ leAll p.low p.start ∧ leAll p.start p.high)))
instance (f : List Nd) (s l h : List Rt) (so : Int) (g : Bool) (u v : List Int) (it ba : Int) : Con CC 38 [.d (pbD f s l h so g u v it ba)] (l.length ≤ 1048576) (.d (.b (decide (0 < l.length)))) := by
  constructor; intro pre
  refine Den.pureI Tryz.func38 rfl 1 [.tmp 2] (by kernel_rfl) rfl rfl (by simp only [initE_nil, initE_cons, Nat.reduceAdd]; exact rfl) ?_
  repeat' first | (with_reducible first | refine nx' ?_ | refine n0 ?_ | refine rD ?_ | refine n1 ?_ | refine nilB_i fun b hb => ?_ | refine nP ?_ ?_ | refine nS fun K hK => ?_ | (refine n2 ?_ ?_ <;> intro h <;> first | subst (h : _ = true) | subst (h : _ = false) | skip) | refine And.intro ?_ ?_ | refine nK ‹Imp _ _› ?_) | exact nl | fail
  all_goals (congr 3; rw [decide_eq_decide]; omega)
instance (f : List Nd) (s l h : List Rt) (so : Int) (g : Bool) (u v : List Int) (it ba : Int) : Con CC 51 [.d (pbD f s l h so g u v it ba)] (l.length ≤ 1048576) (.d (.b (decide (0 < l.length)))) := by
  constructor; intro pre
  refine Den.pureI Tryz.func51 rfl 1 [.tmp 2] (by kernel_rfl) rfl rfl (by simp only [initE_nil, initE_cons, Nat.reduceAdd]; exact rfl) ?_
  repeat' first | (with_reducible first | refine nx' ?_ | refine n0 ?_ | refine rD ?_ | refine n1 ?_ | refine nilB_i fun b hb => ?_ | refine nP ?_ ?_ | refine nS fun K hK => ?_ | (refine n2 ?_ ?_ <;> intro h <;> first | subst (h : _ = true) | subst (h : _ = false) | skip) | refine And.intro ?_ ?_ | refine nK ‹Imp _ _› ?_) | exact nl | fail
  all_goals (congr 3; rw [decide_eq_decide]; omega)
theorem vcode_three {x y z : List Rt} (hx : okVec x = true) : vcode [x, y, z] = 0 ↔ okVec y = true ∧ okVec z = true ∧ y.length = x.length ∧ z.length = x.length := by
  have hx4 := (okVec_parts hx).1
  have c3 : ∀ {P : Nat → Prop}, (∀ t, t < [x, y, z].length → P t) ↔ P 0 ∧ P 1 ∧ P 2 := fun {P} => ⟨fun h => ⟨h 0 (by simp), h 1 (by simp), h 2 (by simp)⟩, fun h t ht => by
    rcases (show t = 0 ∨ t = 1 ∨ t = 2 by simp at ht; omega) with rfl | rfl | rfl
    · exact h.1
    · exact h.2.1
    · exact h.2.2⟩
  constructor
  · intro h
    unfold vcode at h
    split at h
    · rename_i h1; exact absurd h h1
    · split at h
      · rename_i h1
        split at h
        · rename_i h2
          rw [c3] at h1 h2
          exact ⟨h1.2.1, h1.2.2, h2.2.1, h2.2.2⟩
        · cases h
      · cases h
  · rintro ⟨hy, hz, e1, e2⟩
    have hy4 := (okVec_parts hy).1
    have hz4 := (okVec_parts hz).1
    unfold vcode
    have h0 : longI 4096 ([x, y, z].map fun x => (x.length : Int)) = 0 := by
      unfold longI
      rw [if_neg]
      simp
      omega
    rw [if_neg (by rw [h0]; simp), if_pos ((c3 (P := fun t => okVec ([x, y, z].getD t []) = true)).2 ⟨hx, hy, hz⟩), if_pos ((c3 (P := fun t => ([x, y, z].getD t []).length = ([x, y, z].getD 0 []).length)).2 ⟨rfl, e1, e2⟩)]
theorem sgn_neg {g : Bool} {u v : List Int} (h : okRat ⟨g, u, v⟩ = true) : (sgnQ (toQ ⟨g, u, v⟩) < 0) ↔ g = true := by
  obtain ⟨m, n, e, _, _, z, _, _⟩ := okRat_form h
  have t : toQ ⟨g, u, v⟩ = ⟨g, m, n⟩ := by rw [e]; simp [toQ, val_digs]
  rw [t]
  unfold sgnQ
  simp only
  by_cases h0 : m = 0
  · have := z h0
    simp only at this
    subst this; rw [if_pos h0]; simp
  · rw [if_neg h0]; cases g <;> simp
theorem leR_def {r s : Rt} : ¬ 0 < cmpQ (toQ r) (toQ s) ↔ leR r s := by unfold leR; omega
end Go.PL
