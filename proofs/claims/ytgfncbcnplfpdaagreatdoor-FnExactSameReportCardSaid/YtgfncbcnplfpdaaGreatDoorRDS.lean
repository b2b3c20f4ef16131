/- A plain machine, sound for the given model, and contracts of functions over it, part 43: RDS. Nothing is assumed. -/
import Derived.Test.YtgfncbcnplfpdaaGreatDoorPlRead
set_option linter.unusedSimpArgs false
set_option linter.unusedVariables false
set_option linter.unusedSectionVars false
/- RDS -/
namespace Go.PL
open Go Go.Proofs
section
variable {H : Type} {enc : TypeId × Value → H} {w : World}
theorem rdNat : Rd enc Tryz.prog w 36 (fun l : List Int => [encD l]) (fun l => l.length < 1152921504606846976) :=
  (Rd.slice (sz := 1) (by_ := 8) (fun n : Int => D.i n) Tryz.underlying36 (by kernel_rfl) (by kernel_rfl) (Nat.lt_succ_self 0) (fun _ => rfl) (fun _ => rfl) (Rd.int Tryz.underlying3)).map id (fun _ => rfl) (fun l h => by have := h.1; unfold reachBytes at this; simp only [id]; omega)
theorem rdRat : Rd enc Tryz.prog w 48 (fun r : Rt => [.b r.neg, encD r.num, encD r.den]) pR :=
  (Rd.struct Tryz.underlying48 (by kernel_rfl) (RdF.cons (n := 1) rfl (by kernel_rfl) (Rd.bool Tryz.underlying4) (RdF.cons (n := 1) rfl (by kernel_rfl) rdNat (RdF.cons (n := 1) rfl (by kernel_rfl) rdNat RdF.nil)))).map
    (fun x => (⟨x.1, x.2.1, x.2.2.1⟩ : Rt)) (fun _ => rfl) (fun x h => ⟨h.2.1, h.2.2.1⟩)
theorem rdRats : Rd enc Tryz.prog w 47 (fun l : List Rt => [.sl (l.map encR)]) pV :=
  (Rd.slice (sz := 3) (by_ := 56) (fun r : Rt => encR r) Tryz.underlying47 (by kernel_rfl) (by kernel_rfl) (by decide) (fun _ => rfl) (fun _ => rfl) rdRat).map id (fun _ => rfl) (fun l h => ⟨by have := h.1; unfold reachBytes at this; simp only [id]; omega, h.2⟩)
theorem rdRecord : Rd enc Tryz.prog w 50 (fun r : Rc => [.i r.iter, .i r.count, .sl (r.x.map encR), .b r.f.neg, encD r.f.num, encD r.f.den]) pRc :=
  (Rd.struct Tryz.underlying50 (by kernel_rfl) (RdF.cons (n := 1) rfl (by kernel_rfl) (Rd.int Tryz.underlying3) (RdF.cons (n := 1) rfl (by kernel_rfl) (Rd.int Tryz.underlying3) (RdF.cons (n := 1) rfl (by kernel_rfl) rdRats (RdF.cons (n := 3) rfl (by kernel_rfl) rdRat RdF.nil))))).map
    (fun x => (⟨x.1, x.2.1, x.2.2.1, x.2.2.2.1⟩ : Rc)) (fun _ => rfl) (fun x h => ⟨h.2.2.1, h.2.2.2.1⟩)
theorem rdRecords : Rd enc Tryz.prog w 22 (fun l : List Rc => [.sl (l.map encRc)]) pRcs :=
  (Rd.slice (sz := 6) (by_ := 96) (fun r : Rc => encRc r) Tryz.underlying22 (by kernel_rfl) (by kernel_rfl) (by decide) (fun _ => rfl) (fun _ => rfl) rdRecord).map id (fun _ => rfl) (fun l h => ⟨by have := h.1; unfold reachBytes at this; simp only [id]; omega, h.2⟩)
theorem rdReport : Rd enc Tryz.prog w 24 (fun r : Rp => [.i r.status, .sl (r.recs.map encRc)]) (fun r => pRcs r.recs) :=
  (Rd.struct Tryz.underlying24 (by kernel_rfl) (RdF.cons (n := 1) rfl (by kernel_rfl) (Rd.int Tryz.underlying3) (RdF.cons (n := 1) rfl (by kernel_rfl) rdRecords RdF.nil))).map
    (fun x => (⟨x.1, x.2.1⟩ : Rp)) (fun _ => rfl) (fun x h => h.2.1)
end
end Go.PL
