/- A plain machine, sound for the given model, and contracts of functions over it, part 47: PT3 RDS RDP. Nothing is assumed. -/
import Derived.Test.YtapgbbaefieibacGreatDoorAD
import Derived.Test.YtapgbbaefieibacGreatDoorG42
import Derived.Test.YtapgbbaefieibacGreatDoorG45
import Derived.Test.YtapgbbaefieibacGreatDoorPT2
set_option linter.unusedSimpArgs false
set_option linter.unusedVariables false
set_option linter.unusedSectionVars false
/- PT3 -/
namespace Go.PL
open Go Go.Proofs
set_option maxRecDepth 10000
set_option maxHeartbeats 4000000
set_option linter.unusedSimpArgs false
set_option linter.unusedVariables false
instance : FlatE encNd := ⟨fun _ => rfl⟩
set_option maxHeartbeats 8000000 in
instance (f : List Nd) (s l w : List Rt) (so : Int) (g : Bool) (u v : List Int) (it ba : Int) : Con CC 3 [.d (pbD f s l w so g u v it ba)] (pPb ⟨f, s, l, w, so, ⟨g, u, v⟩, it, ba⟩) (.d (.b true)) := by
  constructor; intro hp
  by_cases h1 : szL 1048576 (szPb ⟨f, s, l, w, so, ⟨g, u, v⟩, it, ba⟩) < 0
  · refine Den.pureI Tryz.func3 rfl 1 [.tmp 2] (by kernel_rfl) rfl rfl (by simp only [initE_nil, initE_cons, Nat.reduceAdd]; exact rfl) ?_
    repeat' first | (with_reducible first | refine nx' ?_ | refine n0 ?_ | refine Wp.drawR (by decide +kernel) ?_ | refine Wp.drawSR [2, 3, 4] [false, false, true, true, true] (.op 2 [0] (.op 3 [] (.op 4 [] .done))) (by decide +kernel) ?_ | refine n1 ?_ | refine nilB_i fun b hb => ?_ | refine nP ?_ ?_ | refine nS fun K hK => ?_ | (refine n2 ?_ ?_ <;> intro h <;> first | subst (h : _ = true) | subst (h : _ = false) | skip) | refine And.intro ?_ ?_ | refine nK ‹Imp _ _› ?_) | exact nl | fail
  · obtain ⟨q1, q2⟩ := szL_of (left := 1048576) (n := szPb ⟨f, s, l, w, so, ⟨g, u, v⟩, it, ba⟩) (by omega)
    have hb : bPb ⟨f, s, l, w, so, ⟨g, u, v⟩, it, ba⟩ := bPb_of (by omega)
    have hk : (0 : Int) ≤ 1 ∧ (1 : Int) + 4 * (f.length : Int) + sumOf cR s + sumOf cR l + sumOf cR w ≤ 800000000 := by
      have e1 := szV_cR s
      have e2 := szV_cR l
      have e3 := szV_cR w
      simp only [szPb] at q1
      omega
    have ht := toPb_t f s l w so g u v it ba hb
    cases ho : okPb ⟨f, s, l, w, so, ⟨g, u, v⟩, it, ba⟩ with
    | false =>
      have hj := pText_no f s l w so g u v it ba hb ho
      have hs := markSNil_c 1 (by omega)
      have hh : CC 12 [.d (.sl (([] : List ByteArray).map .s)), .d (.i (1 : Nat))] [] (.d (.i (1 + ([] : List ByteArray).length : Nat))) [] := Con.ok (C := CC) (by simp [mkS])
      simp only [List.length_nil, Nat.add_zero, show ((1 : Nat) : Int) = 1 from rfl] at hs hh
      have hm := markPb_l7 (.var [.d (.sl (f.map encNd)), .d (.sl (s.map encR)), .d (.sl (l.map encR)), .d (.sl (w.map encR)), .d (.i so), .d (.b g), .d (.sl (u.map .i)), .d (.sl (v.map .i)), .d (.i it), .d (.i ba)] false) (.arr 4 (f.map encNd) true) (.arr 3 (s.map encR) true) (.arr 3 (l.map encR) true) (.arr 3 (w.map encR) true) (.arr 1 (u.map .i) true) (.arr 1 (v.map .i) true) (.var [.msl 7 0 f.length, .msl 8 0 s.length, .msl 9 0 l.length, .msl 10 0 w.length, .d (.i so), .d (.b g), .msl 11 0 u.length, .msl 12 0 v.length, .d (.i it), .d (.i ba)] false) (.arr 4 (f.map encNd) false) (.tree 3 ((s.map encR).map .d)) (.tree 3 ((l.map encR).map .d)) (.tree 3 ((w.map encR).map .d)) (.arr 1 (u.map .i) false) (.arr 1 (v.map .i) false) (by simp only [List.all_cons, List.all_nil, arr_bnd, tree_bnd, Bool.and_true]; rfl) f s l w so g u v it ba 1 hb hk
      refine Den.pureI Tryz.func3 rfl 1 [.tmp 2] (by kernel_rfl) rfl rfl (by simp only [initE_nil, initE_cons, Nat.reduceAdd]; exact rfl) ?_
      repeat' first | (with_reducible first | refine nx' ?_ (by simp -implicitDefEqProofs (disch := omega) only [go_sem, ho]; exact rfl) | refine n0 ?_ | refine Wp.drawSR [2, 3, 4] [false, false, true, true, true] (.op 2 [0] (.op 3 [] (.op 4 [] .done))) (by decide +kernel) ?_ | refine Wp.drawR (by decide +kernel) ?_ | refine n1 ?_ | refine nilB_i fun b hb => ?_ | refine nPt (ht) ?_ | refine nPt (hj) ?_ | refine nPc (hs) ?_ | refine nPc (hh) ?_ | refine nPm (hm) ?_ | refine nP ?_ ?_ | refine nS fun K hK => ?_ | (refine n2 ?_ ?_ <;> intro h <;> first | subst (h : _ = true) | subst (h : _ = false) | (simp only [FX, LX, ho] at h) | skip) | refine And.intro ?_ ?_ | refine nK ‹Imp _ _› ?_) | exact nl | fail
      all_goals first | exact absurd trivial ‹¬True› | skip
    | true =>
      have hj := pText_n f s l w so g u v it ba hb ho
      have hl8 := linP_len ⟨f, s, l, w, so, ⟨g, u, v⟩, it, ba⟩
      have hm := markPb_l8 (.var [.d (.sl (f.map encNd)), .d (.sl (s.map encR)), .d (.sl (l.map encR)), .d (.sl (w.map encR)), .d (.i so), .d (.b g), .d (.sl (u.map .i)), .d (.sl (v.map .i)), .d (.i it), .d (.i ba)] false) (.arr 4 (f.map encNd) true) (.arr 3 (s.map encR) true) (.arr 3 (l.map encR) true) (.arr 3 (w.map encR) true) (.arr 1 (u.map .i) true) (.arr 1 (v.map .i) true) (.var [.msl 7 0 f.length, .msl 8 0 s.length, .msl 9 0 l.length, .msl 10 0 w.length, .d (.i so), .d (.b g), .msl 11 0 u.length, .msl 12 0 v.length, .d (.i it), .d (.i ba)] false) (.arr 1 ((linP ⟨f, s, l, w, so, ⟨g, u, v⟩, it, ba⟩).map .s) false) (.arr 4 (f.map encNd) false) (.tree 3 ((s.map encR).map .d)) (.tree 3 ((l.map encR).map .d)) (.tree 3 ((w.map encR).map .d)) (.arr 1 (u.map .i) false) (.arr 1 (v.map .i) false) (by simp only [List.all_cons, List.all_nil, arr_bnd, tree_bnd, Bool.and_true]; rfl) f s l w so g u v it ba 1 hb hk
      have hm2 := markStrs_c [(.var [.d (.sl (f.map encNd)), .d (.sl (s.map encR)), .d (.sl (l.map encR)), .d (.sl (w.map encR)), .d (.i so), .d (.b g), .d (.sl (u.map .i)), .d (.sl (v.map .i)), .d (.i it), .d (.i ba)] false), (.arr 4 (f.map encNd) true), (.arr 3 (s.map encR) true), (.arr 3 (l.map encR) true), (.arr 3 (w.map encR) true), (.arr 1 (u.map .i) true), (.arr 1 (v.map .i) true), (.arr 4 ((mkNs 1 f.length).map encNd) false), (.tree 3 (((mkRs (1 + 4 * (f.length : Int)) s).map encR).map .d)), (.tree 3 (((mkRs ((1 + 4 * (f.length : Int)) + sumOf cR s) l).map encR).map .d)), (.tree 3 (((mkRs (((1 + 4 * (f.length : Int)) + sumOf cR s) + sumOf cR l) w).map encR).map .d)), (.arr 1 ((mkL ((((1 + 4 * (f.length : Int)) + sumOf cR s) + sumOf cR l) + sumOf cR w) u.length).map .i) false), (.arr 1 ((mkL (((((1 + 4 * (f.length : Int)) + sumOf cR s) + sumOf cR l) + sumOf cR w) + u.length) v.length).map .i) false), (.var [.msl 7 0 f.length, .msl 8 0 s.length, .msl 9 0 l.length, .msl 10 0 w.length, .d (.i so), .d (.b g), .msl 11 0 u.length, .msl 12 0 v.length, .d (.i it), .d (.i ba)] false), (.dead), (.arr 4 (f.map encNd) false), (.tree 3 ((s.map encR).map .d)), (.tree 3 ((l.map encR).map .d)), (.tree 3 ((w.map encR).map .d)), (.arr 1 (u.map .i) false), (.arr 1 (v.map .i) false)] 14 (linP ⟨f, s, l, w, so, ⟨g, u, v⟩, it, ba⟩).length 1 (linP ⟨f, s, l, w, so, ⟨g, u, v⟩, it, ba⟩) (by simp) (by simp only [List.all_cons, List.all_nil, arr_bnd, tree_bnd, Bool.and_true]; rfl) (Nat.le_refl _) (by omega) (by omega)
      rw [List.drop_length, List.append_nil] at hm2
      have hh : CC 12 [.d (.sl ((mkS 1 (linP ⟨f, s, l, w, so, ⟨g, u, v⟩, it, ba⟩).length).map .s)), .d (.i (1 : Nat))] [] (.d (.i (1 + (mkS 1 (linP ⟨f, s, l, w, so, ⟨g, u, v⟩, it, ba⟩).length).length : Nat))) [] := Con.ok (C := CC) (by rw [mkS_len]; exact ⟨by omega, by omega, rfl⟩)
      have tk : (mkS 1 (linP ⟨f, s, l, w, so, ⟨g, u, v⟩, it, ba⟩).length).take (linP ⟨f, s, l, w, so, ⟨g, u, v⟩, it, ba⟩).length = mkS 1 (linP ⟨f, s, l, w, so, ⟨g, u, v⟩, it, ba⟩).length := List.take_of_length_le (by rw [mkS_len]; exact Nat.le_refl _)
      rw [mkS_len] at hh
      simp only [List.set_cons_succ, List.set_cons_zero, Int.natCast_add, show ((1 : Nat) : Int) = 1 from rfl] at hm2 hh
      have hh2 : CC 12 [.d (.sl (((mkS 1 (linP ⟨f, s, l, w, so, ⟨g, u, v⟩, it, ba⟩).length).take (linP ⟨f, s, l, w, so, ⟨g, u, v⟩, it, ba⟩).length).map .s)), .d (.i 1)] [] (.d (.i (1 + ((linP ⟨f, s, l, w, so, ⟨g, u, v⟩, it, ba⟩).length : Int)))) [] := by rw [tk]; exact hh
      refine Den.pureI Tryz.func3 rfl 1 [.tmp 2] (by kernel_rfl) rfl rfl (by simp only [initE_nil, initE_cons, Nat.reduceAdd]; exact rfl) ?_
      repeat' first | (with_reducible first | refine nx' ?_ (by simp -implicitDefEqProofs (disch := omega) only [go_sem, ho, mkS_len, tk]; exact rfl) | refine n0 ?_ | refine Wp.drawSR [2, 3, 4] [false, false, true, true, true] (.op 2 [0] (.op 3 [] (.op 4 [] .done))) (by decide +kernel) ?_ | refine Wp.drawR (by decide +kernel) ?_ | refine n1 ?_ | refine nilB_i fun b hb => ?_ | refine nPt (ht) ?_ | refine nPt (hj) ?_ | refine nPc (hh2) ?_ | refine nPm (hm) ?_ | refine nPm (hm2) ?_ | refine nP ?_ ?_ | refine nS fun K hK => ?_ | (refine n2 ?_ ?_ <;> intro h <;> first | subst (h : _ = true) | subst (h : _ = false) | (simp only [FX, LX, ho, mkS_len, tk] at h) | skip) | refine And.intro ?_ ?_ | refine nK ‹Imp _ _› ?_) | exact nl | fail
      all_goals first | exact absurd trivial ‹¬True› | skip
end Go.PL

/- RDS -/
namespace Go.PL
open Go Go.Proofs
section
variable {H : Type} {enc : TypeId × Value → H} {w : World}
theorem rdNat : Rd enc Tryz.prog w 26 (fun l : List Int => [encD l]) (fun l => l.length < 1152921504606846976) :=
  (Rd.slice (sz := 1) (by_ := 8) (fun n : Int => D.i n) Tryz.underlying26 (by kernel_rfl) (by kernel_rfl) (Nat.lt_succ_self 0) (fun _ => rfl) (fun _ => rfl) (Rd.int Tryz.underlying3)).map id (fun _ => rfl) (fun l h => by have := h.1; unfold reachBytes at this; simp only [id]; omega)
theorem rdRat : Rd enc Tryz.prog w 28 (fun r : Rt => [.b r.neg, encD r.num, encD r.den]) pR :=
  (Rd.struct Tryz.underlying28 (by kernel_rfl) (RdF.cons (n := 1) rfl (by kernel_rfl) (Rd.bool Tryz.underlying4) (RdF.cons (n := 1) rfl (by kernel_rfl) rdNat (RdF.cons (n := 1) rfl (by kernel_rfl) rdNat RdF.nil)))).map
    (fun x => (⟨x.1, x.2.1, x.2.2.1⟩ : Rt)) (fun _ => rfl) (fun x h => ⟨h.2.1, h.2.2.1⟩)
theorem rdRats : Rd enc Tryz.prog w 25 (fun l : List Rt => [.sl (l.map encR)]) pV :=
  (Rd.slice (sz := 3) (by_ := 56) (fun r : Rt => encR r) Tryz.underlying25 (by kernel_rfl) (by kernel_rfl) (by decide) (fun _ => rfl) (fun _ => rfl) rdRat).map id (fun _ => rfl) (fun l h => ⟨by have := h.1; unfold reachBytes at this; simp only [id]; omega, h.2⟩)
end
end Go.PL

/- RDP -/
namespace Go.PL
open Go Go.Proofs
section
variable {H : Type} {enc : TypeId × Value → H} {w : World}
theorem rdNode : Rd enc Tryz.prog w 97 (fun k : Nd => [.i k.op, .i k.a, .i k.b, .i k.n]) (fun _ => True) :=
  (Rd.struct Tryz.underlying97 (by kernel_rfl) (RdF.cons (n := 1) rfl (by kernel_rfl) (Rd.int Tryz.underlying3) (RdF.cons (n := 1) rfl (by kernel_rfl) (Rd.int Tryz.underlying3) (RdF.cons (n := 1) rfl (by kernel_rfl) (Rd.int Tryz.underlying3) (RdF.cons (n := 1) rfl (by kernel_rfl) (Rd.int Tryz.underlying3) RdF.nil))))).map
    (fun x => (⟨x.1, x.2.1, x.2.2.1, x.2.2.2.1⟩ : Nd)) (fun _ => rfl) (fun _ _ => trivial)
theorem rdNodes : Rd enc Tryz.prog w 22 (fun l : List Nd => [.sl (l.map encNd)]) (fun l => l.length < 1152921504606846976) :=
  (Rd.slice (sz := 4) (by_ := 32) encNd Tryz.underlying22 (by kernel_rfl) (by kernel_rfl) (by decide) (fun _ => rfl) (fun _ => rfl) rdNode).map id (fun _ => rfl) fun l h => by have e : reachBytes ≤ 1152921504606846976 := (by decide); have := h.1; simp only [id]; omega
theorem rdExpr : Rd enc Tryz.prog w 24 (fun l : List Nd => [.sl (l.map encNd)]) (fun l => l.length < 1152921504606846976) :=
  (Rd.struct Tryz.underlying24 (by kernel_rfl) (RdF.cons (n := 1) rfl (by kernel_rfl) rdNodes RdF.nil)).map
    (fun x => x.1) (fun _ => rfl) (fun x h => h.1)
theorem rdProblem : Rd enc Tryz.prog w 30 (fun p : Pb => [.sl (p.f.map encNd), .sl (p.start.map encR), .sl (p.low.map encR), .sl (p.high.map encR), .i p.solver, .b p.eps.neg, encD p.eps.num, encD p.eps.den, .i p.iter, .i p.back]) pPb :=
  (Rd.struct Tryz.underlying30 (by kernel_rfl) (RdF.cons (n := 1) rfl (by kernel_rfl) rdExpr (RdF.cons (n := 1) rfl (by kernel_rfl) rdRats (RdF.cons (n := 1) rfl (by kernel_rfl) rdRats (RdF.cons (n := 1) rfl (by kernel_rfl) rdRats (RdF.cons (n := 1) rfl (by kernel_rfl) (Rd.int Tryz.underlying3) (RdF.cons (n := 3) rfl (by kernel_rfl) rdRat (RdF.cons (n := 1) rfl (by kernel_rfl) (Rd.int Tryz.underlying3) (RdF.cons (n := 1) rfl (by kernel_rfl) (Rd.int Tryz.underlying3) RdF.nil))))))))).map
    (fun x => (⟨x.1, x.2.1, x.2.2.1, x.2.2.2.1, x.2.2.2.2.1, x.2.2.2.2.2.1, x.2.2.2.2.2.2.1, x.2.2.2.2.2.2.2.1⟩ : Pb)) (fun _ => rfl) (fun x h => ⟨h.1, h.2.1, h.2.2.1, h.2.2.2.1, h.2.2.2.2.2.1⟩)
end
end Go.PL
