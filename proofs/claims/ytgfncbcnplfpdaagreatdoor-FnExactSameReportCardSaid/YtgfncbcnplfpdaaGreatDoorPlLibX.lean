/- A plain machine, sound for the given model, and contracts of functions over it, part 44: PlLibX. Nothing is assumed. -/
import Derived.Test.YtgfncbcnplfpdaaGreatDoorRDS
import Derived.Sort.Grow
import Derived.Deep.Draws
set_option linter.unusedSimpArgs false
set_option linter.unusedVariables false
set_option linter.unusedSectionVars false
/- PlLibX -/
/- What a function of the library, whose contract speaks of the machine, comes to in the plain machine. -/
namespace Go.PL
open Go

theorem Inv.grown {w w' : World} {Pr : Pro} {p : Place} (hM : Mem w Pr p []) (h : RowKit.Below w.heap.size w w') : Inv ⟨w, Pr, p, []⟩ w' Pr p [] := by
  refine ⟨⟨fun b i hb => Nat.lt_of_lt_of_le (hM.prIn b i hb) h.size, fun o ob h1 => by simp at h1, fun o o' a b h1 => by simp at h1, fun o ob h1 => by simp at h1⟩,
    ⟨h.os, h.tape, h.output, h.size, fun k hk _ => h.block k hk⟩, ⟨fun _ _ h => h, fun b i v hb hc => ?_⟩, fun b i hb => .inl hb, .refl _ _, fun o ob h1 => by simp at h1⟩
  have := hM.prIn b i hb
  unfold cellAt at hc ⊢
  rw [h.cell (p := ⟨b, i, none⟩) this]
  exact hc

theorem Below.growN {w : World} {k : Nat} {os : Array Obj} : RowKit.Below w.heap.size w (Sort.grow (w.drewN k) os) := by
  refine ⟨rfl, rfl, rfl, by simp [Sort.grow], fun i hi => ?_⟩
  show (w.heap ++ os)[i]? = _
  rw [Array.getElem?_append_left hi]

/-- A function of data, by its contract: it hands back a number, a text, a truth. -/
theorem Says.scal {P : Program} {gl : GL} {f : FuncId} {fn : Func} {ds : List D} {u : Value} (hf : P.funcs[f]? = some fn) (hn : (fn.name == "runtime.NumGoroutine") = false) (hb : fn.body.isNone = false)
    (h : ∀ (w : World) (Pr : Pro) (p : Place) (vals : Array Value), GOk gl w Pr p [] → (hl : vals.size = ds.length) → (∀ i (hi : i < ds.length), RelD w Pr ds[i] (vals[i]'(by omega))) → Calls P f vals w fun e w' => e = .returned u ∧ RowKit.Below w.heap.size w w') :
    Says P gl f (ds.map .d) [] (.d (.val u)) [] := by
  refine ⟨⟨fn, hf, hn, hb⟩, fun w Pr p vals hM hG hl hr => (h w Pr p vals hG (by simpa using hl) fun i hi => ?_).mono fun e w' ⟨h1, h2⟩ => ⟨u, Pr, p, h1, Inv.grown hM h2, .d (.val _)⟩⟩
  have h3 := hr i (by simpa using hi)
  rw [List.getElem_map] at h3
  generalize vals[i]'(by rw [hl]; simpa using hi) = v at h3 ⊢
  cases h3 with
  | d h3 => exact h3
end Go.PL
