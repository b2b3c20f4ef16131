/- A plain machine, sound for the given model, and contracts of functions over it, part 21: EB. Nothing is assumed. -/
import Derived.Test.YticeamhfobihpaaDoorEA
set_option linter.unusedSimpArgs false
set_option linter.unusedVariables false
set_option linter.unusedSectionVars false
/- EB -/
namespace Go.PL
open Go Go.Proofs
set_option maxRecDepth 10000
set_option linter.unusedSimpArgs false
set_option linter.unusedVariables false
/-- Where a node's tree begins and how deep it is, from those before it. -/
def nstep (bg dp : List Int) (i : Nat) (x : Nd) : Option (Int × Int) :=
  if plOk x i = true then
    if kidsN x.op = 1 then (if x.a = (i : Int) - 1 then some (bg.getD x.a.toNat 0, dp.getD x.a.toNat 0 + 1) else none)
    else if kidsN x.op = 2 then (if x.b = (i : Int) - 1 ∧ x.a = bg.getD x.b.toNat 0 - 1 then some (bg.getD x.a.toNat 0, max (dp.getD x.a.toNat 0) (dp.getD x.b.toNat 0) + 1) else none)
    else some ((i : Int), 1)
  else none
def shp (l : List Nd) : Nat → Option (List Int × List Int)
  | 0 => some ([], [])
  | i + 1 => match shp l i with
    | none => none
    | some (bg, dp) => match nstep bg dp i (l.getD i nd0) with
      | none => none
      | some (b, d) => some (bg ++ [b], dp ++ [d])
theorem shp_succ {l : List Nd} {i : Nat} {bg dp : List Int} (h : shp l i = some (bg, dp)) : shp l (i + 1) = match nstep bg dp i (l.getD i nd0) with
      | none => none
      | some (b, d) => some (bg ++ [b], dp ++ [d]) := by
  rw [shp, h]
theorem plOk_kids {x : Nd} {p : Int} (h : plOk x p = true) : (0 < kidsN x.op → 0 ≤ x.a ∧ x.a ≤ p - 1) ∧ (1 < kidsN x.op → 0 ≤ x.b ∧ x.b ≤ p - 1) := by
  unfold plOk chOk at h
  simp only [Bool.and_eq_true] at h
  refine ⟨fun h1 => ?_, fun h1 => ?_⟩
  · have := h.1.2
    rw [if_pos (by simpa using h1)] at this
    simpa using this
  · have := h.2
    rw [if_pos (by simpa using h1)] at this
    simpa using this
theorem getD_app {a b : List Int} {k : Nat} (h : k < a.length) : (a ++ b).getD k 0 = a.getD k 0 := by
  simp [List.getD, List.getElem?_append_left h]
theorem nstep_app {bg dp b d : List Int} {i : Nat} {x : Nd} (h1 : i ≤ bg.length) (h2 : i ≤ dp.length) : nstep (bg ++ b) (dp ++ d) i x = nstep bg dp i x := by
  unfold nstep
  by_cases hp : plOk x i = true
  · obtain ⟨ha, hb⟩ := plOk_kids hp
    rw [if_pos hp, if_pos hp]
    by_cases k1 : kidsN x.op = 1
    · have := ha (by omega)
      rw [if_pos k1, if_pos k1, getD_app (by omega), getD_app (by omega)]
    · rw [if_neg k1, if_neg k1]
      by_cases k2 : kidsN x.op = 2
      · have := ha (by omega)
        have := hb (by omega)
        rw [if_pos k2, if_pos k2, getD_app (a := bg) (by omega), getD_app (a := bg) (by omega), getD_app (a := dp) (by omega), getD_app (a := dp) (by omega)]
      · rw [if_neg k2, if_neg k2]
  · rw [if_neg hp, if_neg hp]
structure Shp (l : List Nd) (i : Nat) (bg dp : List Int) : Prop where
  lb : bg.length = i
  ld : dp.length = i
  at_ : ∀ j, j < i → nstep bg dp j (l.getD j nd0) = some (bg.getD j 0, dp.getD j 0)
  bgb : ∀ j, j < i → 0 ≤ bg.getD j 0 ∧ bg.getD j 0 ≤ j
  dpb : ∀ j, j < i → 1 ≤ dp.getD j 0 ∧ dp.getD j 0 ≤ j + 1
theorem nstep_bnd {bg dp : List Int} {i : Nat} {x : Nd} {b d : Int} (hb : ∀ j, j < i → 0 ≤ bg.getD j 0 ∧ bg.getD j 0 ≤ j) (hd : ∀ j, j < i → 1 ≤ dp.getD j 0 ∧ dp.getD j 0 ≤ j + 1) (h : nstep bg dp i x = some (b, d)) : (0 ≤ b ∧ b ≤ i) ∧ 1 ≤ d ∧ d ≤ i + 1 := by
  unfold nstep at h
  split at h
  · rename_i hp
    obtain ⟨ka, kb⟩ := plOk_kids hp
    split at h
    · split at h
      · cases h
        have := ka (by omega)
        have h1 := hb x.a.toNat (by omega)
        have h2 := hd x.a.toNat (by omega)
        omega
      · cases h
    · split at h
      · split at h
        · cases h
          have := ka (by omega)
          have := kb (by omega)
          have h1 := hb x.a.toNat (by omega)
          have h2 := hd x.a.toNat (by omega)
          have h3 := hd x.b.toNat (by omega)
          omega
        · cases h
      · cases h; omega
  · cases h
theorem shp_spec {l : List Nd} : ∀ {i : Nat} {bg dp : List Int}, shp l i = some (bg, dp) → Shp l i bg dp
  | 0, bg, dp, h => by
    cases h
    exact ⟨rfl, rfl, fun j hj => by omega, fun j hj => by omega, fun j hj => by omega⟩
  | i + 1, bg, dp, h => by
    unfold shp at h
    split at h
    · cases h
    · rename_i bg0 dp0 h0
      split at h
      · cases h
      · rename_i b d hn
        cases h
        obtain ⟨h1, h2, h3, h4, h5⟩ := shp_spec h0
        obtain ⟨n1, n2⟩ := nstep_bnd h4 h5 hn
        have gb : (bg0 ++ [b]).getD i 0 = b := by simp [List.getD, ← h1]
        have gd : (dp0 ++ [d]).getD i 0 = d := by simp [List.getD, ← h2]
        refine ⟨by simp [h1], by simp [h2], fun j hj => ?_, fun j hj => ?_, fun j hj => ?_⟩
        · rw [nstep_app (by omega) (by omega)]
          by_cases e : j = i
          · subst e; rw [gb, gd, hn]
          · rw [getD_app (by omega), getD_app (by omega)]; exact h3 j (by omega)
        · by_cases e : j = i
          · subst e; rw [gb]; omega
          · rw [getD_app (by omega)]; exact h4 j (by omega)
        · by_cases e : j = i
          · subst e; rw [gd]; omega
          · rw [getD_app (by omega)]; exact h5 j (by omega)
theorem shp_none {l : List Nd} {i : Nat} (h : shp l i = none) : ∀ n, i ≤ n → shp l n = none
  | 0, hn => by
    obtain rfl : i = 0 := by omega
    exact h
  | n + 1, hn => by
    by_cases e : i = n + 1
    · rw [← e]; exact h
    · rw [shp, shp_none h n (by omega)]
/-- Is it an expression? -/
def okE (l : List Nd) : Bool := decide (1 ≤ l.length ∧ l.length ≤ 60) && match shp l l.length with
  | none => false
  | some (bg, dp) => decide (bg.getD (l.length - 1) 0 = 0) && decide (∀ t, t < l.length → dp.getD t 0 ≤ 12)
def shB (l : List Nd) : List Int := match shp l l.length with
  | some (bg, _) => bg
  | none => []
def shD (l : List Nd) : List Int := match shp l l.length with
  | some (_, dp) => dp
  | none => []
def shO (l : List Nd) : Bool := match shp l l.length with
  | some _ => true
  | none => false
theorem sh_some {l : List Nd} {bg dp : List Int} (h : shp l l.length = some (bg, dp)) : shB l = bg ∧ shD l = dp ∧ shO l = true := by unfold shB shD shO; rw [h]; exact ⟨rfl, rfl, rfl⟩
theorem sh_none {l : List Nd} (h : shp l l.length = none) : shB l = [] ∧ shD l = [] ∧ shO l = false := by unfold shB shD shO; rw [h]; exact ⟨rfl, rfl, rfl⟩
end Go.PL
