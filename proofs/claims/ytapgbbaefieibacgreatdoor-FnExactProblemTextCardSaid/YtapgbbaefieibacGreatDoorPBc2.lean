/- A plain machine, sound for the given model, and contracts of functions over it, part 43: PBc2. Nothing is assumed. -/
import Derived.Test.YtapgbbaefieibacGreatDoorPBb
import Derived.Test.YtapgbbaefieibacGreatDoorEK
import Derived.Test.YtapgbbaefieibacGreatDoorG42
set_option linter.unusedSimpArgs false
set_option linter.unusedVariables false
set_option linter.unusedSectionVars false
/- PBc2 -/
namespace Go.PL
open Go Go.Proofs
set_option maxRecDepth 10000
set_option maxHeartbeats 4000000
set_option linter.unusedSimpArgs false
set_option linter.unusedVariables false
theorem signS_c {g : Bool} {u v : List Int} (h : okRat ⟨g, u, v⟩ = true) : CC 37 [.d (.agg [.b g, .sl (u.map .i), .sl (v.map .i)])] [] (.d (.i (sgnQ (toQ ⟨g, u, v⟩)))) [] := by
  obtain ⟨p1, p2, p3⟩ := okRat_toQ h
  have e1 : D.agg [.b g, .sl (u.map .i), .sl (v.map .i)] = .agg [.b (toQ ⟨g, u, v⟩).neg, encD (digs (toQ ⟨g, u, v⟩).n), encD (digs (toQ ⟨g, u, v⟩).d)] := by rw [← p1, ← p2]; rfl
  rw [e1]
  refine Con.ok (C := CC) ?_
  have := p3.mono (show 40 ≤ 1048576 by omega)
  exact this.1
theorem okPb_iff {f : List Nd} {s l w : List Rt} {so : Int} {g : Bool} {u v : List Int} {it ba : Int} : okPb ⟨f, s, l, w, so, ⟨g, u, v⟩, it, ba⟩ = true ↔ okE f = true ∧ okVec s = true ∧ dimN f ≤ s.length ∧ 1 ≤ so ∧ so ≤ 4 ∧ okRat ⟨g, u, v⟩ = true ∧ g = false ∧ 0 ≤ it ∧ it ≤ 6 ∧ 0 ≤ ba ∧ ba ≤ 30 ∧
    ((l.length = 0 ∧ w.length = 0) ∨ (okVec l = true ∧ okVec w = true ∧ l.length = s.length ∧ w.length = s.length ∧ leAll l s ∧ leAll s w)) := by
  unfold okPb
  simp only [Bool.and_eq_true, Bool.or_eq_true, decide_eq_true_eq, Bool.not_eq_true', and_assoc]
theorem okPb_not {f : List Nd} {s l w : List Rt} {so : Int} {g : Bool} {u v : List Int} {it ba : Int} (h : ¬ (okE f = true ∧ okVec s = true ∧ dimN f ≤ s.length ∧ 1 ≤ so ∧ so ≤ 4 ∧ okRat ⟨g, u, v⟩ = true ∧ g = false ∧ 0 ≤ it ∧ it ≤ 6 ∧ 0 ≤ ba ∧ ba ≤ 30 ∧
    ((l.length = 0 ∧ w.length = 0) ∨ (okVec l = true ∧ okVec w = true ∧ l.length = s.length ∧ w.length = s.length ∧ leAll l s ∧ leAll s w)))) : okPb ⟨f, s, l, w, so, ⟨g, u, v⟩, it, ba⟩ = false := by
  rw [Bool.eq_false_iff]; exact fun hk => h (okPb_iff.1 hk)
theorem vc3 {s l w : List Rt} (h : vcode [s, l, w] = 0) (hs : okVec s = true) : okVec l = true ∧ okVec w = true ∧ l.length = s.length ∧ w.length = s.length := (vcode_three hs).1 h
theorem bVs3 {s l w : List Rt} (h1 : bV s) (h2 : bV l) (h3 : bV w) : bVs [s, l, w] := ⟨by simp, by simp [h1, h2, h3]⟩
set_option maxHeartbeats 4000000 in
instance (f : List Nd) (s l w : List Rt) (so : Int) (g : Bool) (u v : List Int) (it ba : Int) : Con CC 48 [.d (pbD f s l w so g u v it ba)] (bPb ⟨f, s, l, w, so, ⟨g, u, v⟩, it, ba⟩) (.d (.b (okPb ⟨f, s, l, w, so, ⟨g, u, v⟩, it, ba⟩))) := by
  constructor; intro ⟨h1, h2, h3, h4, h5⟩
  simp only at h1 h2 h3 h4 h5
  have s1 := h2.1
  have s2 := h3.1
  have s3 := h4.1
  have u1 : u.length ≤ 1048576 := h5.1
  have u2 : v.length ≤ 1048576 := h5.2
  refine Den.pureI Tryz.func48 rfl 1 [.tmp 2] (by kernel_rfl) rfl rfl (by simp only [initE_nil, initE_cons, Nat.reduceAdd]; exact rfl) ?_
  repeat' first | (with_reducible first | refine nx' ?_ | refine n0 ?_ | refine Wp.drawR (by decide +kernel) ?_ | refine Wp.drawSR [] [false, false, false, false, false, false, false, false, false, false, false, false, false, false, false, false, false, false, false, false, false, false, false, false, false, false] .done (by decide +kernel) ?_ | refine n1 ?_ | refine nilB_i fun b hb => ?_ | refine nP ?_ ?_ | refine nS fun K hK => ?_ | (refine n2 ?_ ?_ <;> intro h <;> first | subst (h : _ = true) | subst (h : _ = false) | skip) | refine And.intro ?_ ?_ | refine nK ‹Imp _ _› ?_) | exact nl | fail
  all_goals first
    | exact bVs3 h2 h3 h4
    | exact (vc3 (by assumption) (by assumption)).1
    | exact (vc3 (by assumption) (by assumption)).2.1
    | exact (vc3 (by assumption) (by assumption)).2.2.1
    | exact (vc3 (by assumption) (by assumption)).2.2.2.symm
    | skip
  all_goals first
    | (congr 3; rw [eq_comm, okPb_iff]; exact ⟨by assumption, by assumption, by assumption, by omega, by omega, by assumption, rfl, by omega, by omega, by omega, by omega, .inl ⟨by omega, by omega⟩⟩)
    | (congr 3; rw [eq_comm]; refine okPb_not ?_; rintro ⟨k1, k2, k3, k4, k5, k6, k7, k8, k9, k10, k11, ⟨z1, z2⟩ | ⟨z1, z2, z3, z4, z5, z6⟩⟩ <;> first | omega | contradiction | (rw [h] at k1; cases k1) | (rw [h] at k2; cases k2) | (rw [h] at k6; cases k6) | exact absurd z5 h | exact absurd z6 h | exact absurd ((vcode_three k2).2 ⟨z1, z2, z3, z4⟩) h)
    | (have q := vc3 (by assumption) (by assumption)
       congr 3
       rw [Bool.eq_iff_iff, decide_eq_true_iff, okPb_iff]
       exact ⟨fun k => ⟨by assumption, by assumption, by assumption, by omega, by omega, by assumption, rfl, by omega, by omega, by omega, by omega, .inr ⟨q.1, q.2.1, q.2.2.1, q.2.2.2, by assumption, k⟩⟩,
         fun ⟨_, _, _, _, _, _, _, _, _, _, _, k⟩ => by rcases k with ⟨z1, z2⟩ | ⟨_, _, _, _, _, z6⟩ <;> first | omega | exact z6⟩)
    | skip
end Go.PL
