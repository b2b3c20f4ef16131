/- A plain machine, sound for the given model, and contracts of functions over it, part 29: AD. Nothing is assumed. -/
import Derived.Test.YtapgbbaefieibacGreatDoorAB
set_option linter.unusedSimpArgs false
set_option linter.unusedVariables false
set_option linter.unusedSectionVars false
/- AD -/
namespace Go.PL
open Go Go.Proofs
set_option maxRecDepth 10000
set_option maxHeartbeats 4000000
set_option linter.unusedSimpArgs false
set_option linter.unusedVariables false
abbrev rc0 : Rc := ⟨0, 0, [], ⟨false, [], []⟩⟩
theorem encRc_eq {r : Rc} : encRc r = .agg [.i r.iter, .i r.count, .sl (r.x.map encR), .b r.f.neg, encD r.f.num, encD r.f.den] := rfl
instance : Enc encRc 6 rc0 := ⟨fun _ => rfl, fun x => by simp [D.cells, D.one]⟩
theorem app_Rc {l : List Rc} {a b : Int} {x : List Rt} {g : Bool} {u v : List Int} : l.map encRc ++ [D.agg [.val (.int .i64 a), .val (.int .i64 b), .sl (x.map encR), .val (.bool g), .sl (u.map .i), .sl (v.map .i)]] = (l ++ [(⟨a, b, x, ⟨g, u, v⟩⟩ : Rc)]).map encRc := by simp [encRc]
theorem set_Rc {l : List Rc} {k : Nat} {a b : Int} {x : List Rt} {g : Bool} {u v : List Int} : (l.map encRc).set k (D.agg [.val (.int .i64 a), .val (.int .i64 b), .sl (x.map encR), .val (.bool g), .sl (u.map .i), .sl (v.map .i)]) = (l.set k (⟨a, b, x, ⟨g, u, v⟩⟩ : Rc)).map encRc := by rw [List.map_set]
theorem Rc.eta {r : Rc} : (⟨r.iter, r.count, r.x, r.f⟩ : Rc) = r := rfl
attribute [go_sem] encRc_eq app_Rc set_Rc Rc.eta
def bRcs (l : List Rc) : Prop := l.length ≤ 1048576 ∧ ∀ r ∈ l, bRc r
theorem bRcs.get {l : List Rc} (h : bRcs l) (i : Nat) : bRc (l.getD i rc0) := by
  rw [List.getD]
  cases hi : l[i]? with
  | none => exact ⟨⟨by simp, by simp⟩, by simp, by simp⟩
  | some r => exact h.2 r (List.mem_of_getElem? hi)
def pRcs (l : List Rc) : Prop := l.length < 1152921504606846976 ∧ ∀ r ∈ l, pRc r
theorem pRcs.get {l : List Rc} (h : pRcs l) (i : Nat) : pRc (l.getD i rc0) := by
  rw [List.getD]
  cases hi : l[i]? with
  | none => exact ⟨⟨by simp, by simp⟩, by simp, by simp⟩
  | some r => exact h.2 r (List.mem_of_getElem? hi)
def szRcs (l : List Rc) : Nat := l.length + sumOf szRc l
structure Rp where
  status : Int
  recs : List Rc
deriving DecidableEq
abbrev encRp (r : Rp) : D := .agg [.i r.status, .sl (r.recs.map encRc)]
/-- What holds of a record of a report, at its place. -/
def okAt (l : List Rc) (t : Nat) : Prop := okRc (l.getD t rc0) = true ∧ (l.getD t rc0).iter = t ∧ (l.getD t rc0).x.length = (l.getD 0 rc0).x.length
instance (l : List Rc) (t : Nat) : Decidable (okAt l t) := by unfold okAt; infer_instance
def okRp (r : Rp) : Bool := decide (1 ≤ r.status ∧ r.status ≤ 6 ∧ r.recs.length ≤ 7 ∧ ∀ t, t < r.recs.length → okAt r.recs t)
theorem okRp_not {a : Int} {l : List Rc} {i : Nat} (hi : i < l.length) (h : ¬okAt l i) : okRp ⟨a, l⟩ = false := by
  unfold okRp; rw [decide_eq_false_iff_not]; exact fun hh => h (hh.2.2.2 i hi)
theorem okRp_all {a : Int} {l : List Rc} (h : ∀ t, t < l.length → okAt l t) : okRp ⟨a, l⟩ = decide (1 ≤ a ∧ a ≤ 6 ∧ l.length ≤ 7) := by
  unfold okRp; rw [decide_eq_decide]; exact ⟨fun hh => ⟨hh.1, hh.2.1, hh.2.2.1⟩, fun hh => ⟨hh.1, hh.2.1, hh.2.2, h⟩⟩
theorem bRcs_of {l : List Rc} (h : 0 ≤ szL 1048576 (szRcs l)) : bRcs l := by
  have := szL_le h
  unfold szRcs at this
  refine ⟨by omega, fun r hr => ?_⟩
  have h2 := sumOf_mem (f := szRc) hr
  rw [show szRc r = szV r.x + (r.f.num.length + r.f.den.length) from rfl] at h2
  exact ⟨bV_of (by omega), by omega, by omega⟩
end Go.PL
