/- A plain machine, sound for the given model, and contracts of functions over it, part 29: AR. Nothing is assumed. -/
import Derived.Test.YtfdjgoapdkpbaaaG22
import Derived.Test.YtfdjgoapdkpbaaaAB
import Derived.Test.YtfdjgoapdkpbaaaPlRead
set_option linter.unusedSimpArgs false
set_option linter.unusedVariables false
set_option linter.unusedSectionVars false
/- AR -/
namespace Go.PL
open Go Go.Proofs
section
variable {H : Type} {enc : TypeId × Value → H} {w : World}
theorem rdNat : Rd enc Try.prog w 27 (fun l : List Int => [encD l]) (fun l => l.length < 1152921504606846976) :=
  (Rd.slice (sz := 1) (by_ := 8) (fun n : Int => D.i n) Try.underlying27 (by kernel_rfl) (by kernel_rfl) (Nat.lt_succ_self 0) (fun _ => rfl) (fun _ => rfl) (Rd.int Try.underlying3)).map id (fun _ => rfl) (fun l h => by have := h.1; unfold reachBytes at this; simp only [id]; omega)
theorem rdRat : Rd enc Try.prog w 60 (fun r : Rt => [.b r.neg, encD r.num, encD r.den]) pR :=
  (Rd.struct Try.underlying60 (by kernel_rfl) (RdF.cons (n := 1) rfl (by kernel_rfl) (Rd.bool Try.underlying4) (RdF.cons (n := 1) rfl (by kernel_rfl) rdNat (RdF.cons (n := 1) rfl (by kernel_rfl) rdNat RdF.nil)))).map
    (fun x => (⟨x.1, x.2.1, x.2.2.1⟩ : Rt)) (fun _ => rfl) (fun x h => ⟨h.2.1, h.2.2.1⟩)
theorem rdRats : Rd enc Try.prog w 59 (fun l : List Rt => [.sl (l.map encR)]) pV :=
  (Rd.slice (sz := 3) (by_ := 56) (fun r : Rt => encR r) Try.underlying59 (by kernel_rfl) (by kernel_rfl) (by decide) (fun _ => rfl) (fun _ => rfl) rdRat).map id (fun _ => rfl) (fun l h => ⟨by have := h.1; unfold reachBytes at this; simp only [id]; omega, h.2⟩)
theorem rdRecord : Rd enc Try.prog w 62 (fun r : Rc => [.i r.iter, .i r.count, .sl (r.x.map encR), .b r.f.neg, encD r.f.num, encD r.f.den]) pRc :=
  (Rd.struct Try.underlying62 (by kernel_rfl) (RdF.cons (n := 1) rfl (by kernel_rfl) (Rd.int Try.underlying3) (RdF.cons (n := 1) rfl (by kernel_rfl) (Rd.int Try.underlying3) (RdF.cons (n := 1) rfl (by kernel_rfl) rdRats (RdF.cons (n := 3) rfl (by kernel_rfl) rdRat RdF.nil))))).map
    (fun x => (⟨x.1, x.2.1, x.2.2.1, x.2.2.2.1⟩ : Rc)) (fun _ => rfl) (fun x h => ⟨h.2.2.1, h.2.2.2.1⟩)
end
/-- The law's contract as the machine bears it. -/
theorem callTrue {f : FuncId} {x : D} (h : CC f [.d x] [] (.d (.b true)) []) {W : World} {v : Value} (hv : RelD W (PrW W) x v) : Calls Try.prog f #[v] W fun e W' => e = .returned (.bool true) ∧ RowKit.Below W.heap.size W W' := by
  have hs := Den.says (T := TT) (gl := ⟨[], []⟩) (by kernel_rfl) (fun f a os r os' h => h.elim) h
  refine (hs.2 W (PrW W) ⟨fun _ => 0, fun _ => 0, fun _ => none⟩ #[v] (memW W _) .nil rfl fun i hi => ?_).mono fun e W' ⟨u, Pr', p', h1, h2, h3⟩ => ?_
  · obtain rfl : i = 0 := by simpa using hi
    exact .d hv
  · subst h1
    cases h3 with
    | d h3 => cases h3; exact ⟨rfl, Below.of_inv h2⟩
end Go.PL
