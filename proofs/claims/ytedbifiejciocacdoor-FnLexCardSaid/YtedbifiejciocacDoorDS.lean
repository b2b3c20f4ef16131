/- A plain machine, sound for the given model, and contracts of functions over it, part 22: DS. Nothing is assumed. -/
import Derived.Test.YtedbifiejciocacDoorG21
set_option linter.unusedSimpArgs false
set_option linter.unusedVariables false
set_option linter.unusedSectionVars false
/- DS -/
namespace Go.PL
open Go Go.Proofs
set_option maxRecDepth 10000
set_option maxHeartbeats 4000000
set_option linter.unusedSimpArgs false
set_option linter.unusedVariables false
/-- Bytes as data. -/
def u8D (n : Int) : D := .val (.int .u8 n)
theorem u8D_eq {n : Int} : u8D n = .val (.int .u8 n) := rfl
instance : Enc u8D 1 0 := ⟨fun _ => rfl, fun x => by simp [u8D, D.cells, D.one]⟩
attribute [go_sem] u8D_eq
abbrev encB (l : List Int) : D := .sl (l.map u8D)
def Byt (l : List Int) : Prop := ∀ x ∈ l, 0 ≤ x ∧ x < 256
theorem Byt.get {l : List Int} (h : Byt l) (i : Nat) : 0 ≤ l.getD i 0 ∧ l.getD i 0 < 256 := by
  rw [List.getD]
  cases hi : l[i]? with
  | none => simp
  | some x => exact h x (List.mem_of_getElem? hi)
/-- A source of choices: where it stands, and its seed. -/
abbrev Src := Nat × Int
def bytF (l : List Int) (σ : Src) : Int × Src :=
  if σ.1 < l.length then (l.getD σ.1 0, (σ.1 + 1, (σ.2 * 31 + l.getD σ.1 0 + 7) % 2147483648))
  else if 3000 < σ.1 + 1 then (0, (σ.1 + 1, σ.2))
  else ((σ.2 * 1103515245 + 12345) % 2147483648 / 65536 % 256, (σ.1 + 1, (σ.2 * 1103515245 + 12345) % 2147483648))
def nexF (l : List Int) (n : Int) (σ : Src) : Int × Src :=
  if n ≤ 1 then (0, σ) else if n ≤ 256 then ((bytF l σ).1 % n, (bytF l σ).2)
  else (((bytF l σ).1 * 65536 + (bytF l (bytF l σ).2).1 * 256 + (bytF l (bytF l (bytF l σ).2).2).1) % n, (bytF l (bytF l (bytF l σ).2).2).2)
/-- A right source, that stands not too far. -/
structure SOk (l : List Int) (b : Nat) (σ : Src) : Prop where
  hb : Byt l
  hl : l.length ≤ 1048576
  ha : σ.1 ≤ b
  hc : b ≤ 1000000000000
  h0 : 0 ≤ σ.2
  h1 : σ.2 < 2147483648
theorem bytF_ok {l : List Int} {b : Nat} {σ : Src} (h : SOk l b σ) (hb : b + 1 ≤ 1000000000000) : 0 ≤ (bytF l σ).1 ∧ (bytF l σ).1 < 256 ∧ SOk l (b + 1) (bytF l σ).2 := by
  have g := h.hb.get σ.1
  have a := h.ha
  have h0 := h.h0
  have h1 := h.h1
  unfold bytF
  split
  · exact ⟨g.1, g.2, ⟨h.hb, h.hl, by simp only; omega, hb, by simp only; omega, by simp only; omega⟩⟩
  · split
    · exact ⟨by simp only; omega, by simp only; omega, ⟨h.hb, h.hl, by simp only; omega, hb, h0, h1⟩⟩
    · exact ⟨by simp only; omega, by simp only; omega, ⟨h.hb, h.hl, by simp only; omega, hb, by simp only; omega, by simp only; omega⟩⟩
theorem SOk.mono {l : List Int} {b c : Nat} {σ : Src} (h : SOk l b σ) (hb : b ≤ c) (hc : c ≤ 1000000000000) : SOk l c σ := ⟨h.hb, h.hl, by have := h.ha; omega, hc, h.h0, h.h1⟩
theorem nexF_ok {l : List Int} {b : Nat} {n : Int} {σ : Src} (h : SOk l b σ) (hb : b + 3 ≤ 1000000000000) : 0 ≤ (nexF l n σ).1 ∧ (1 < n → (nexF l n σ).1 < n) ∧ SOk l (b + 3) (nexF l n σ).2 := by
  obtain ⟨a1, a2, a3⟩ := bytF_ok h (by omega)
  obtain ⟨b1, b2, b3⟩ := bytF_ok a3 (by omega)
  obtain ⟨c1, c2, c3⟩ := bytF_ok b3 (by omega)
  unfold nexF
  split
  · exact ⟨by simp only; omega, fun _ => by simp only; omega, h.mono (by omega) hb⟩
  · split
    · refine ⟨Int.emod_nonneg _ (by omega), fun _ => Int.emod_lt_of_pos _ (by omega), a3.mono (by omega) hb⟩
    · refine ⟨Int.emod_nonneg _ (by omega), fun _ => Int.emod_lt_of_pos _ (by omega), c3.mono (by omega) hb⟩
instance (l : List Int) (a : Nat) (s : Int) : ConS CC 38 [] (encB l) (.i a) (.i s) (SOk l 1000000000000 (a, s)) (.d (.i (bytF l (a, s)).1)) (encB l) (.i (bytF l (a, s)).2.1) (.i (bytF l (a, s)).2.2) := by
  constructor
  intro os o hF h
  have g := h.hb.get a
  have ha := h.ha
  have h0 := h.h0
  have h1 := h.h1
  have hl := h.hl
  simp only at ha h0 h1
  have e1 : ((a : Int) + 1).toNat - 1 = a := by omega
  have e2 : ((a : Int) + 1 - 1).toNat = a := by omega
  have e3 : ((a + 1 : Nat) : Int) = (a : Int) + 1 := by omega
  have wr : ∀ z : Int, 0 ≤ z → z < 9223372036854775808 → IntKind.i64.wrap z = z := fun z p q => w64 (by omega) q
  refine Den.newG (vs := [.d (.i (bytF l (a, s)).1)]) Tryd.func38 rfl 1 os.length [.tmp 2] (by kernel_rfl) rfl rfl (by simp only [initE_nil, initE_cons, Nat.reduceAdd]; exact rfl) rfl (by simp) (by simp) rfl (by rw [List.length_set]; exact all_set' hF.bd rfl) ?_
  by_cases c1 : a < l.length
  · have e : bytF l (a, s) = (l.getD a 0, (a + 1, (s * 31 + l.getD a 0 + 7) % 2147483648)) := if_pos c1
    rw [e]
    
    repeat' first | (with_reducible first | refine nx' ?_ (by simp -implicitDefEqProofs (disch := omega) only [go_sem, e2, Int.add_sub_cancel]; exact rfl) | refine n0 ?_ | refine rD ?_ | refine n1 ?_ | refine nilB_i fun b hb => ?_ | refine nP ?_ ?_ | refine nS fun K hK => ?_ | (refine n2 ?_ ?_ <;> intro h <;> first | subst (h : _ = true) | subst (h : _ = false) | (simp only [FX, LX, e2, Int.add_sub_cancel] at h) | skip) | refine And.intro ?_ ?_ | refine nK ‹Imp _ _› ?_) | exact nl | fail
    all_goals first
      | exact finG_of [(2, .d (.i (l.getD a 0)))] [] (by rw [List.append_nil]; simp only [e3]; exact Weak.lo)
      | skip
  · by_cases c2 : 3000 < a + 1
    · have e : bytF l (a, s) = (0, (a + 1, s)) := by unfold bytF; rw [if_neg c1, if_pos c2]
      rw [e]
      
      repeat' first | (with_reducible first | refine nx' ?_ | refine n0 ?_ | refine rD ?_ | refine n1 ?_ | refine nilB_i fun b hb => ?_ | refine nP ?_ ?_ | refine nS fun K hK => ?_ | (refine n2 ?_ ?_ <;> intro h <;> first | subst (h : _ = true) | subst (h : _ = false) | skip) | refine And.intro ?_ ?_ | refine nK ‹Imp _ _› ?_) | exact nl | fail
      all_goals first
        | exact finG_of [(2, .d (.i 0))] [] (by rw [List.append_nil]; simp only [e3]; exact Weak.lo)
        | skip
    · have e : bytF l (a, s) = ((s * 1103515245 + 12345) % 2147483648 / 65536 % 256, (a + 1, (s * 1103515245 + 12345) % 2147483648)) := by unfold bytF; rw [if_neg c1, if_neg c2]
      rw [e]
      
      repeat' first | (with_reducible first | refine nx' ?_ | refine n0 ?_ | refine rD ?_ | refine n1 ?_ | refine nilB_i fun b hb => ?_ | refine nP ?_ ?_ | refine nS fun K hK => ?_ | (refine n2 ?_ ?_ <;> intro h <;> first | subst (h : _ = true) | subst (h : _ = false) | skip) | refine And.intro ?_ ?_ | refine nK ‹Imp _ _› ?_) | exact nl | fail
      all_goals first
        | exact finG_of [(2, .d (.i ((s * 1103515245 + 12345) % 2147483648 / 65536 % 256)))] [] (by rw [List.append_nil]; simp only [e3]; exact Weak.lo)
        | skip
end Go.PL
