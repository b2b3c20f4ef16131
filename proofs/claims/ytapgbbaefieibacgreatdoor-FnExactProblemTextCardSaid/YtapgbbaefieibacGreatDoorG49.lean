/- A plain machine, sound for the given model, and contracts of functions over it, part 49: AN0 AN1. Nothing is assumed. -/
import Derived.Test.YtapgbbaefieibacGreatDoorPlText
import Derived.Test.YtapgbbaefieibacGreatDoorPlBack
import Derived.Test.YtapgbbaefieibacGreatDoorA1
import Derived.Test.YtapgbbaefieibacGreatDoorG23
import Derived.Test.YtapgbbaefieibacGreatDoorG42
import Derived.Test.YtapgbbaefieibacGreatDoorG48
import Derived.RangeFuncKeeps
import Derived.RangeFuncNested
import Derived.RegionIn
import Derived.Shelf.RegionOpen
import Derived.Test.YtapgbbaefieibacGreatDoorRows
import Derived.RangeFuncBound
set_option linter.unusedSimpArgs false
set_option linter.unusedVariables false
set_option linter.unusedSectionVars false
/- AN0 -/
namespace Go.PL
open Go Go.Proofs
set_option maxRecDepth 10000
set_option maxHeartbeats 4000000
set_option linter.unusedSimpArgs false
set_option linter.unusedVariables false
set_option maxRecDepth 100000
attribute [local go_sem] Oper.semAt_some
/-- What slices.Backward hands back. -/
theorem back_calls (A : Option Addr) (len cap : Nat) (n : Nat) (w : World) :
    CallsIn Fence.wide n Tryz.prog 103 #[.slice A len cap] w fun e w' => e = .returned (.func (.func 123) #[] #[.pointer (some ⟨w.heap.size, 0, none⟩)]) ∧ w' = w.alloc (.cells #[.slice A len cap] 26) := by
  refine callsIn_of_wp Tryz.func103 rfl trivial ?_ rfl
  simp only [Tryz.ntmps103, List.size_toArray, List.length_cons, List.length_nil, Nat.reduceAdd, Nat.reduceSub, Array.replicate_succ, Array.replicate_zero, List.push_toArray, List.append_toArray, List.nil_append, List.cons_append]
  gi_wp2
  go_ret
  exact ⟨rfl, rfl⟩
end Go.PL

/- AN1 -/
namespace Go.PL
open Go Go.Proofs Go.RowKit
set_option maxRecDepth 10000
set_option maxHeartbeats 4000000
set_option linter.unusedSimpArgs false
set_option linter.unusedVariables false
theorem stab_kept {Z : Nat → Prop} {w W : World} {Pr : Pro} (hPr : ∀ b i, Pr b i → Z b) (h : ∀ k, Z k → W.heap[k]? = w.heap[k]?) : Stab w W Pr Pr :=
  ⟨fun _ _ h => h, fun b i v hb hc => by rw [cellAt_of_heap (h b (hPr b i hb))]; exact hc⟩
/-- Some blocks stay. -/
def KeepsZ (Z : Nat → Prop) (A B : World) : Prop := A.heap.size ≤ B.heap.size ∧ ∀ k, Z k → B.heap[k]? = A.heap[k]?
theorem KeepsZ.trans {Z : Nat → Prop} {A B C : World} (h : KeepsZ Z A B) (k : KeepsZ Z B C) : KeepsZ Z A C := ⟨Nat.le_trans h.1 k.1, fun i hi => (k.2 i hi).trans (h.2 i hi)⟩
/-- The places of a slice, the last first. -/
def downs (n : Nat) : List (Fin n) := (List.finRange n).reverse
theorem downs_succ {n k : Nat} (h : k < n) : (downs n).take (n - k) = (downs n).take (n - (k + 1)) ++ [⟨k, h⟩] := by
  have hl : (downs n).length = n := by simp [downs]
  have e : n - k = (n - (k + 1)) + 1 := by omega
  rw [e, List.take_add_one, List.getElem?_eq_getElem (by rw [hl]; omega)]
  congr 1
  have : (downs n)[n - (k + 1)]'(by rw [hl]; omega) = ⟨k, h⟩ := by
    unfold downs
    rw [List.getElem_reverse, List.getElem_finRange]
    apply Fin.ext
    simp
    omega
  rw [this]; rfl
theorem back_stops {m : Nat} (a : List Int) {lv : Fin a.length → Int} (hlv : ∀ x, lv x = a.getD x.1 0) (hlen : a.length * 8 ≤ 140737488351232) {Z : Nat → Prop} {w : World} {Pr : Pro} (hZ : ∀ k, Z k → k < w.heap.size) (hPr : ∀ b i, Pr b i → Z b) {lb : Value} (hrel : RelD w Pr (.ptr [encD a]) lb) :
    SeqStopsK Fence.wide m Tryz.prog 123 #[lb] (fun k : Fin a.length => #[.int .i64 (k.1 : Int), .int .i64 (lv k)]) (KeepsZ Z) (fun xs => xs = downs a.length) (fun _ => True) a.length w := by
  intro l J Jx W hW hJ hJx hY h0
  refine callsIn_wide.2 ((Tryz.backSays (m - 1) a lb (fun k Pr' W' => Pr' = Pr ∧ KeepsZ Z w W' ∧ J ((downs a.length).take (a.length - k)) W') (fun W' => ∃ pre, Jx pre W') l W Pr hlen ?_ ?_ ?_).mono ?_)
  · rintro k Pr' W' ⟨rfl, hb, _⟩
    exact hrel.mono (stab_kept hPr hb.2)
  · exact ⟨rfl, ⟨hW.size, fun k hk => hW.block k (hZ k hk)⟩, by rw [Nat.sub_self, List.take_zero]; exact h0⟩
  · rintro k Pr' W' hk ⟨rfl, hb, hj⟩
    have e : a.getD k 0 = lv ⟨k, hk⟩ := (hlv ⟨k, hk⟩).symm
    rw [e]
    refine (hY _ ⟨k, hk⟩ W' hj (by rw [List.length_take]; omega)).mono ?_
    rintro e W2 (⟨rfl, h1, h2⟩ | ⟨rfl, h1⟩)
    · exact .inl ⟨rfl, Pr', rfl, hb.trans h2, by rw [downs_succ hk]; exact h1⟩
    · exact .inr ⟨rfl, _, h1⟩
  · rintro e W' ⟨hv, ⟨Pr', _, _, h1⟩ | ⟨pre, h1⟩⟩
    · refine ⟨hv, .inl ⟨_, rfl, ?_⟩⟩
      rw [Nat.sub_zero, List.take_of_length_le (by simp [downs])] at h1
      exact h1
    · exact ⟨hv, .inr ⟨pre, trivial, h1⟩⟩
/-- What one place adds. -/
def piece (a : List Int) (k : Nat) : List UInt8 := if k < a.length - 1 then pad4 (a.getD k 0) else Lib.decDigits (a.getD k 0).toNat
theorem pieces_take (a : List Int) : ∀ k, k < a.length → (((downs a.length).take (a.length - k)).map fun x => piece a x.1).flatten = textR (a.drop k).reverse := by
  intro k hk
  obtain ⟨d, hd⟩ : ∃ d, a.length = k + 1 + d := ⟨a.length - (k + 1), by omega⟩
  induction d generalizing k with
  | zero =>
    have e : a.length - (k + 1) = 0 := by omega
    have e2 : k = a.length - 1 := by omega
    rw [downs_succ hk, e, List.take_zero]
    simp only [List.nil_append, List.map_cons, List.map_nil, List.flatten_cons, List.flatten_nil, List.append_nil, piece]
    rw [if_neg (by omega)]
    subst e2
    rw [textR_top (by omega)]
  | succ d ih =>
    rw [downs_succ hk, List.map_append, List.flatten_append, ih (k + 1) (by omega) (by omega), textR_drop (k := k) (by omega)]
    simp only [List.map_cons, List.map_nil, List.flatten_cons, List.flatten_nil, List.append_nil, piece]
    rw [if_pos (by omega)]
theorem pieces_all {a : List Int} (h : a ≠ []) : ((downs a.length).map fun x => piece a x.1).flatten = textR a.reverse := by
  have hp : 0 < a.length := List.length_pos_iff.2 h
  have := pieces_take a 0 hp
  rw [Nat.sub_zero, List.take_of_length_le (by simp [downs]), List.drop_zero] at this
  exact this
theorem piece_len {a : List Int} (ha : ∀ x ∈ a, 0 ≤ x ∧ x ≤ 9999) {k : Nat} (hk : k < a.length) : (piece a k).length ≤ 4 := by
  have := ha _ (getD_mem 0 hk)
  unfold piece
  split
  · rw [pad4_len this]; omega
  · exact (dec_len (by omega)).2
theorem pieces_len {a : List Int} (ha : ∀ x ∈ a, 0 ≤ x ∧ x ≤ 9999) : ∀ l : List (Fin a.length), ((l.map fun x => piece a x.1).flatten).length ≤ 4 * l.length
  | [] => by simp
  | x :: r => by
    have h1 := piece_len ha x.2
    have h2 := pieces_len ha r
    rw [List.map_cons, List.flatten_cons, List.length_append, List.length_cons]; omega
end Go.PL
