/- A plain machine, sound for the given model, and contracts of functions over it, part 45: ARX. Nothing is assumed. -/
import Derived.Test.YtifdnkokfeikfaaDoorAXR
import Derived.Test.YtifdnkokfeikfaaDoorRows
import Derived.Test.YtifdnkokfeikfaaDoorCards
import Derived.Test.YtifdnkokfeikfaaDoorTie
import Derived.Lay
import Derived.Lib.LaidTab
import Derived.LaidLaws
import Derived.LaidSub
import Derived.MakeChecks
import Derived.SevenTiedAt
set_option linter.unusedSimpArgs false
set_option linter.unusedVariables false
set_option linter.unusedSectionVars false
/- ARX -/
namespace Go.PL
open Go Go.Proofs
section
variable {H : Type} {enc : TypeId × Value → H} {w : World}
theorem rdNat : Rd enc Tryd.prog w 22 (fun l : List Int => [encD l]) (fun l => l.length < 1152921504606846976) :=
  (Rd.slice (sz := 1) (by_ := 8) (fun n : Int => D.i n) Tryd.underlying22 (by kernel_rfl) (by kernel_rfl) (Nat.lt_succ_self 0) (fun _ => rfl) (fun _ => rfl) (Rd.int Tryd.underlying3)).map id (fun _ => rfl) (fun l h => by have := h.1; unfold reachBytes at this; simp only [id]; omega)
theorem rdRat : Rd enc Tryd.prog w 24 (fun r : Rt => [.b r.neg, encD r.num, encD r.den]) pR :=
  (Rd.struct Tryd.underlying24 (by kernel_rfl) (RdF.cons (n := 1) rfl (by kernel_rfl) (Rd.bool Tryd.underlying4) (RdF.cons (n := 1) rfl (by kernel_rfl) rdNat (RdF.cons (n := 1) rfl (by kernel_rfl) rdNat RdF.nil)))).map
    (fun x => (⟨x.1, x.2.1, x.2.2.1⟩ : Rt)) (fun _ => rfl) (fun x h => ⟨h.2.1, h.2.2.1⟩)
theorem rdRats : Rd enc Tryd.prog w 32 (fun l : List Rt => [.sl (l.map encR)]) pV :=
  (Rd.slice (sz := 3) (by_ := 56) (fun r : Rt => encR r) Tryd.underlying32 (by kernel_rfl) (by kernel_rfl) (by decide) (fun _ => rfl) (fun _ => rfl) rdRat).map id (fun _ => rfl) (fun l h => ⟨by have := h.1; unfold reachBytes at this; simp only [id]; omega, h.2⟩)
theorem rdRecord : Rd enc Tryd.prog w 34 (fun r : Rc => [.i r.iter, .i r.count, .sl (r.x.map encR), .b r.f.neg, encD r.f.num, encD r.f.den]) pRc :=
  (Rd.struct Tryd.underlying34 (by kernel_rfl) (RdF.cons (n := 1) rfl (by kernel_rfl) (Rd.int Tryd.underlying3) (RdF.cons (n := 1) rfl (by kernel_rfl) (Rd.int Tryd.underlying3) (RdF.cons (n := 1) rfl (by kernel_rfl) rdRats (RdF.cons (n := 3) rfl (by kernel_rfl) rdRat RdF.nil))))).map
    (fun x => (⟨x.1, x.2.1, x.2.2.1, x.2.2.2.1⟩ : Rc)) (fun _ => rfl) (fun x h => ⟨h.2.2.1, h.2.2.2.1⟩)
end
/-- The law's contract as the machine bears it, where the table lies. -/
theorem callTrueT {f : FuncId} {x : D} (h : CC f [.d x] [] (.d (.b true)) []) {g : Nat} (hg : Tryd.prog.globalNamed tabName = some g) {W : World} (ht : Lib.TabIs Tryd.prog W tabName .u64 Lib.pow10Tab) {v : Value} (hv : RelD W (PrW W) x v) :
    Calls Tryd.prog f #[v] W fun e W' => e = .returned (.bool true) ∧ RowKit.Below W.heap.size W W' := by
  obtain ⟨et, fr, hG⟩ := gok_of hg ht ⟨fun _ => 0, fun _ => 0⟩
  have hs := Den.says (T := TT) (gl := glT g et fr) (by kernel_rfl) (xn_says rfl hg) h
  refine (hs.2 W (PrW W) ⟨fun _ => 0, fun _ => 0⟩ #[v] (memW W _) hG rfl fun i hi => ?_).mono fun e W' ⟨u, Pr', p', h1, h2, h3⟩ => ?_
  · obtain rfl : i = 0 := by simpa using hi
    exact .d hv
  · subst h1
    cases h3 with
    | d h3 => cases h3; exact ⟨rfl, Below.of_inv h2⟩
end Go.PL
