/- A plain machine, sound for the given model, and contracts of functions over it, part 35: AXE. Nothing is assumed. -/
import Derived.Test.YticeamhfobihpaaDoorAShelf
import Derived.Test.YticeamhfobihpaaDoorRows
set_option linter.unusedSimpArgs false
set_option linter.unusedVariables false
set_option linter.unusedSectionVars false
/- AXE -/
namespace Go.PL
open Go Go.Proofs
/-- The table's name, as the given row has it. -/
def tabName : String := ((YticeamhfobihpaaDoor.Rows.fnExactPrintExprRow.laid[2]?).map (·.1)).getD default
/-- The table of powers of ten, where it lies. -/
def glT (g : Nat) (et : TypeId) (fr : Nat × Nat) : GL := ⟨[(g, .cells (Lib.pow10Tab.map fun z => Value.int .u64 z).toArray et fr)], []⟩
instance {g et fr} : TG TT (glT g et fr) := ⟨rfl⟩
theorem tab_of {g : Nat} {et : TypeId} {fr : Nat × Nat} {name : String} (hg : Tryd.prog.globalNamed name = some g) {w : World} {Pr : Pro} {p : Place} {os : List Ob} (h : GOk (glT g et fr) w Pr p os) : Lib.TabIs Tryd.prog w name .u64 Lib.pow10Tab := by
  unfold Lib.TabIs World.var?
  rw [hg]
  have := h.cell (g, .cells (Lib.pow10Tab.map fun z => Value.int .u64 z).toArray et fr) (by simp [glT])
  simp only [Option.bind_some]
  rw [this]
theorem gok_of {name : String} {g : Nat} (hg : Tryd.prog.globalNamed name = some g) {w : World} (h : Lib.TabIs Tryd.prog w name .u64 Lib.pow10Tab) (p : Place) : ∃ et fr, ∀ Pr, GOk (glT g et fr) w Pr p [] := by
  unfold Lib.TabIs World.var? at h
  rw [hg] at h
  simp only [Option.bind_some] at h
  split at h
  · rename_i cs et fr hh
    cases h
    exact ⟨et, fr, fun Pr => ⟨fun x hx => by simp only [glT, List.mem_singleton] at hx; subst hx; exact hh, fun x _ o ob h1 => by simp at h1, fun x hx => by simp [glT] at hx⟩⟩
  · cases h
theorem xn_says {g : Nat} {et : TypeId} {fr : Nat × Nat} {name : String} (hn : name = tabName) (hg : Tryd.prog.globalNamed name = some g) : ∀ f a os r os', Xn f a os r os' → Says Tryd.prog (glT g et fr) f a os r os' := by
  rintro f a os r os' ⟨rfl, rfl, ⟨rfl, n, h0, h1, rfl, rfl⟩ | ⟨rfl, s, t, ht, rfl, rfl⟩ | ⟨rfl, o, a, b, n, ho1, ho2, rfl, rfl⟩⟩
  · refine Says.scal (ds := [.i n]) Tryd.func30 (by decide) rfl fun w Pr p vals hG hl hr => ?_
    have hv : vals = #[.int .i64 n] := by
      have h2 := hr 0 (by simp)
      refine Array.ext (by simpa using hl) fun i hi hi' => ?_
      obtain rfl : i = 0 := by simp at hi'; omega
      simp only [List.getElem_cons_zero] at h2
      generalize vals[0] = v at h2
      cases h2; rfl
    subst hv
    subst hn
    refine (Any.strconv_Itoa Tryd.laysM171 n h0 h1 w (tab_of hg hG)).mono ?_
    rintro e w' ⟨rfl, k, os, rfl⟩
    exact ⟨rfl, Below.growN⟩
  · obtain ⟨c, rfl⟩ := list_one ht
    refine Says.scal (ds := [.s s, .s ⟨#[c]⟩]) Tryd.func29 (by decide) rfl fun w Pr p vals hG hl hr => ?_
    have hv : vals = #[.string s, .string ⟨#[c]⟩] := by
      have h2 := hr 0 (by simp)
      have h3 := hr 1 (by simp)
      refine Array.ext (by simpa using hl) fun i hi hi' => ?_
      simp only [List.getElem_cons_zero, List.getElem_cons_succ] at h2 h3
      rcases (show i = 0 ∨ i = 1 by simp at hi'; omega) with rfl | rfl
      · generalize vals[0] = v at h2
        cases h2; rfl
      · generalize vals[1] = v at h3
        cases h3; rfl
    subst hv
    refine (Any.strings_Contains_one Tryd.lays144 s c w).mono ?_
    rintro e w' ⟨rfl, rfl⟩
    exact ⟨rfl, RowKit.Below.refl _ _⟩
  · refine Says.scal (ds := [.agg [.i o, .i a, .i b, .i n]]) Tryd.func48 (by decide) rfl fun w Pr p vals hG hl hr => ?_
    have hv : vals = #[.agg #[.int .i64 o, .int .i64 a, .int .i64 b, .int .i64 n]] := by
      have h2 := hr 0 (by simp)
      refine Array.ext (by simpa using hl) fun i hi hi' => ?_
      obtain rfl : i = 0 := by simp at hi'; omega
      simp only [List.getElem_cons_zero] at h2
      generalize vals[0] = v at h2
      cases h2 with
      | agg cs vs hs hq =>
        have q0 := hq 0 (by simp)
        have q1 := hq 1 (by simp)
        have q2 := hq 2 (by simp)
        have q3 := hq 3 (by simp)
        simp only [List.getElem_cons_zero, List.getElem_cons_succ] at q0 q1 q2 q3
        show Value.agg vs = _
        congr 1
        refine Array.ext (hs.trans rfl) fun j hj hj' => ?_
        rcases (show j = 0 ∨ j = 1 ∨ j = 2 ∨ j = 3 by simp at hj'; omega) with rfl | rfl | rfl | rfl
        · generalize vs[0] = u at q0; cases q0; rfl
        · generalize vs[1] = u at q1; cases q1; rfl
        · generalize vs[2] = u at q2; cases q2; rfl
        · generalize vs[3] = u at q3; cases q3; rfl
    subst hv
    exact signOf_calls o a b n ⟨ho1, ho2⟩ w
instance : ItOk TT Tryd.prog where
  ok := fun g hg => by cases hg
end Go.PL
