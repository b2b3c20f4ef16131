/- A plain machine, sound for the given model, and contracts of functions over it, part 46: RDS RDP. Nothing is assumed. -/
import Derived.Test.YtgfncbcnplfpdabGreatDoorPBe
set_option linter.unusedSimpArgs false
set_option linter.unusedVariables false
set_option linter.unusedSectionVars false
/- RDS -/
namespace Go.PL
open Go Go.Proofs
section
variable {H : Type} {enc : TypeId × Value → H} {w : World}
theorem rdNat : Rd enc Tryz.prog w 26 (fun l : List Int => [encD l]) (fun l => l.length < 1152921504606846976) :=
  (Rd.slice (sz := 1) (by_ := 8) (fun n : Int => D.i n) Tryz.underlying26 (by kernel_rfl) (by kernel_rfl) (Nat.lt_succ_self 0) (fun _ => rfl) (fun _ => rfl) (Rd.int Tryz.underlying3)).map id (fun _ => rfl) (fun l h => by have := h.1; unfold reachBytes at this; simp only [id]; omega)
theorem rdRat : Rd enc Tryz.prog w 28 (fun r : Rt => [.b r.neg, encD r.num, encD r.den]) pR :=
  (Rd.struct Tryz.underlying28 (by kernel_rfl) (RdF.cons (n := 1) rfl (by kernel_rfl) (Rd.bool Tryz.underlying4) (RdF.cons (n := 1) rfl (by kernel_rfl) rdNat (RdF.cons (n := 1) rfl (by kernel_rfl) rdNat RdF.nil)))).map
    (fun x => (⟨x.1, x.2.1, x.2.2.1⟩ : Rt)) (fun _ => rfl) (fun x h => ⟨h.2.1, h.2.2.1⟩)
theorem rdRats : Rd enc Tryz.prog w 25 (fun l : List Rt => [.sl (l.map encR)]) pV :=
  (Rd.slice (sz := 3) (by_ := 56) (fun r : Rt => encR r) Tryz.underlying25 (by kernel_rfl) (by kernel_rfl) (by decide) (fun _ => rfl) (fun _ => rfl) rdRat).map id (fun _ => rfl) (fun l h => ⟨by have := h.1; unfold reachBytes at this; simp only [id]; omega, h.2⟩)
end
end Go.PL

/- RDP -/
namespace Go.PL
open Go Go.Proofs
section
variable {H : Type} {enc : TypeId × Value → H} {w : World}
theorem rdNode : Rd enc Tryz.prog w 90 (fun k : Nd => [.i k.op, .i k.a, .i k.b, .i k.n]) (fun _ => True) :=
  (Rd.struct Tryz.underlying90 (by kernel_rfl) (RdF.cons (n := 1) rfl (by kernel_rfl) (Rd.int Tryz.underlying3) (RdF.cons (n := 1) rfl (by kernel_rfl) (Rd.int Tryz.underlying3) (RdF.cons (n := 1) rfl (by kernel_rfl) (Rd.int Tryz.underlying3) (RdF.cons (n := 1) rfl (by kernel_rfl) (Rd.int Tryz.underlying3) RdF.nil))))).map
    (fun x => (⟨x.1, x.2.1, x.2.2.1, x.2.2.2.1⟩ : Nd)) (fun _ => rfl) (fun _ _ => trivial)
theorem rdNodes : Rd enc Tryz.prog w 22 (fun l : List Nd => [.sl (l.map encNd)]) (fun l => l.length < 1152921504606846976) :=
  (Rd.slice (sz := 4) (by_ := 32) encNd Tryz.underlying22 (by kernel_rfl) (by kernel_rfl) (by decide) (fun _ => rfl) (fun _ => rfl) rdNode).map id (fun _ => rfl) fun l h => by have e : reachBytes ≤ 1152921504606846976 := (by decide); have := h.1; simp only [id]; omega
theorem rdExpr : Rd enc Tryz.prog w 24 (fun l : List Nd => [.sl (l.map encNd)]) (fun l => l.length < 1152921504606846976) :=
  (Rd.struct Tryz.underlying24 (by kernel_rfl) (RdF.cons (n := 1) rfl (by kernel_rfl) rdNodes RdF.nil)).map
    (fun x => x.1) (fun _ => rfl) (fun x h => h.1)
theorem rdProblem : Rd enc Tryz.prog w 30 (fun p : Pb => [.sl (p.f.map encNd), .sl (p.start.map encR), .sl (p.low.map encR), .sl (p.high.map encR), .i p.solver, .b p.eps.neg, encD p.eps.num, encD p.eps.den, .i p.iter, .i p.back]) pPb :=
  (Rd.struct Tryz.underlying30 (by kernel_rfl) (RdF.cons (n := 1) rfl (by kernel_rfl) rdExpr (RdF.cons (n := 1) rfl (by kernel_rfl) rdRats (RdF.cons (n := 1) rfl (by kernel_rfl) rdRats (RdF.cons (n := 1) rfl (by kernel_rfl) rdRats (RdF.cons (n := 1) rfl (by kernel_rfl) (Rd.int Tryz.underlying3) (RdF.cons (n := 3) rfl (by kernel_rfl) rdRat (RdF.cons (n := 1) rfl (by kernel_rfl) (Rd.int Tryz.underlying3) (RdF.cons (n := 1) rfl (by kernel_rfl) (Rd.int Tryz.underlying3) RdF.nil))))))))).map
    (fun x => (⟨x.1, x.2.1, x.2.2.1, x.2.2.2.1, x.2.2.2.2.1, x.2.2.2.2.2.1, x.2.2.2.2.2.2.1, x.2.2.2.2.2.2.2.1⟩ : Pb)) (fun _ => rfl) (fun x h => ⟨h.1, h.2.1, h.2.2.1, h.2.2.2.1, h.2.2.2.2.2.1⟩)
end
end Go.PL
