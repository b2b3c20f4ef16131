/- A plain machine, sound for the given model, and contracts of functions over it, part 23: AX. Nothing is assumed. -/
import Derived.Test.YticeamhfobihpaaDoorAShelf
import Derived.Test.YticeamhfobihpaaDoorRows
set_option linter.unusedSimpArgs false
set_option linter.unusedVariables false
set_option linter.unusedSectionVars false
/- AX -/
namespace Go.PL
open Go Go.Proofs
/-- The table's name, as the given row has it. -/
def tabName : String := ((YticeamhfobihpaaDoor.Rows.fnExactTokenTextRow.laid[2]?).map (·.1)).getD default
/-- The table of powers of ten, where it lies. -/
def glT (g : Nat) (et : TypeId) (fr : Nat × Nat) : List (Nat × Obj) := [(g, .cells (Lib.pow10Tab.map fun z => Value.int .u64 z).toArray et fr)]
theorem tab_of {g : Nat} {et : TypeId} {fr : Nat × Nat} {name : String} (hg : Tryd.prog.globalNamed name = some g) {w : World} {p : Place} {os : List Ob} (h : GOk (glT g et fr) w p os) : Lib.TabIs Tryd.prog w name .u64 Lib.pow10Tab := by
  unfold Lib.TabIs World.var?
  rw [hg]
  have := h.cell (g, .cells (Lib.pow10Tab.map fun z => Value.int .u64 z).toArray et fr) (by simp [glT])
  simp only [Option.bind_some]
  rw [this]
theorem gok_of {name : String} {g : Nat} (hg : Tryd.prog.globalNamed name = some g) {w : World} (h : Lib.TabIs Tryd.prog w name .u64 Lib.pow10Tab) (p : Place) : ∃ et fr, GOk (glT g et fr) w p [] := by
  unfold Lib.TabIs World.var? at h
  rw [hg] at h
  simp only [Option.bind_some] at h
  split at h
  · rename_i cs et fr hh
    cases h
    exact ⟨et, fr, ⟨fun x hx => by simp only [glT, List.mem_singleton] at hx; subst hx; exact hh, fun x _ o ob h1 => by simp at h1⟩⟩
  · cases h
theorem xn_says {g : Nat} {et : TypeId} {fr : Nat × Nat} {name : String} (hn : name = tabName) (hg : Tryd.prog.globalNamed name = some g) : ∀ f a os r os', Xn f a os r os' → Says Tryd.prog (glT g et fr) f a os r os' := by
  rintro f a os r os' ⟨rfl, rfl, ⟨rfl, n, h0, h1, rfl, rfl⟩ | ⟨rfl, s, t, ht, rfl, rfl⟩⟩
  · refine Says.scal (ds := [.i n]) Tryd.func30 (by decide) rfl fun w Pr p vals hG hl hr => ?_
    have hv : vals = #[.int .i64 n] := by
      have h2 := hr 0 (by simp)
      refine Array.ext (by simpa using hl) fun i hi hi' => ?_
      obtain rfl : i = 0 := by simp at hi'; omega
      simp only [List.getElem_cons_zero] at h2
      generalize vals[0] = v at h2
      cases h2; rfl
    subst hv
    subst hn
    refine (Any.strconv_Itoa Tryd.laysM171 n h0 h1 w (tab_of hg hG)).mono ?_
    rintro e w' ⟨rfl, k, os, rfl⟩
    exact ⟨rfl, Below.growN⟩
  · obtain ⟨c, rfl⟩ := list_one ht
    refine Says.scal (ds := [.s s, .s ⟨#[c]⟩]) Tryd.func29 (by decide) rfl fun w Pr p vals hG hl hr => ?_
    have hv : vals = #[.string s, .string ⟨#[c]⟩] := by
      have h2 := hr 0 (by simp)
      have h3 := hr 1 (by simp)
      refine Array.ext (by simpa using hl) fun i hi hi' => ?_
      simp only [List.getElem_cons_zero, List.getElem_cons_succ] at h2 h3
      rcases (show i = 0 ∨ i = 1 by simp at hi'; omega) with rfl | rfl
      · generalize vals[0] = v at h2
        cases h2; rfl
      · generalize vals[1] = v at h3
        cases h3; rfl
    subst hv
    refine (Any.strings_Contains_one Tryd.lays144 s c w).mono ?_
    rintro e w' ⟨rfl, rfl⟩
    exact ⟨rfl, RowKit.Below.refl _ _⟩
instance : ItOk TT Tryd.prog where
  ok := fun g hg => by cases hg
end Go.PL
