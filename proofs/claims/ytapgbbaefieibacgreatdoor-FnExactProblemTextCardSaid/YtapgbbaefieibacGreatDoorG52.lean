/- A plain machine, sound for the given model, and contracts of functions over it, part 52: PlLaid ARXl. Nothing is assumed. -/
import Derived.Test.YtapgbbaefieibacGreatDoorG42
import Derived.Test.YtapgbbaefieibacGreatDoorG47
import Derived.Test.YtapgbbaefieibacGreatDoorAXR
import Derived.LaidLaws
import Derived.Test.YtapgbbaefieibacGreatDoorRows
import Derived.Test.YtapgbbaefieibacGreatDoorCards
import Derived.Test.YtapgbbaefieibacGreatDoorTie
import Derived.Lay
import Derived.Lib.LaidTab
import Derived.LaidSub
import Derived.MakeChecks
import Derived.SevenTiedAt
import Derived.OpenVars
set_option linter.unusedSimpArgs false
set_option linter.unusedVariables false
set_option linter.unusedSectionVars false
/- PlLaid -/
/- A package-level variable that is a slice of texts, from what is laid. -/
namespace Go.PL
open Go
theorem add_cell {w : World} {b off m k : Nat} {spot : Option Nat} {v : Value} (hc : w.cell? ((Addr.add ⟨b, off, spot⟩ m).add k) = some v) : w.cell? ⟨b, off + m + k, none⟩ = some v := by
  unfold Addr.add at hc
  by_cases hk : k = 0
  · subst hk
    rw [if_pos rfl] at hc
    by_cases hm : m = 0
    · subst hm
      rw [if_pos rfl] at hc
      unfold World.cell? at hc ⊢
      simp only [Nat.add_zero] at hc ⊢
      split at hc
      · split at hc
        · cases hc
        · simpa using hc
      · cases hc
    · rw [if_neg hm] at hc; exact hc
  · rw [if_neg hk] at hc
    by_cases hm : m = 0
    · subst hm
      rw [if_pos rfl] at hc; exact hc
    · rw [if_neg hm] at hc; exact hc
theorem cell_spot {w : World} {b off : Nat} {spot : Option Nat} {v : Value} (k3 : w.cell? ⟨b, off, spot⟩ = some v) : spot = none := by
  unfold World.cell? at k3
  split at k3
  · split at k3
    · cases k3
    · rename_i hs; cases spot with
      | none => rfl
      | some _ => simp at hs
  · cases k3
theorem cell_lt {w : World} {b off : Nat} {v : Value} (hc : w.cell? ⟨b, off, none⟩ = some v) : b < w.heap.size := by
  unfold World.cell? at hc
  split at hc
  · rename_i hb'; exact (Array.getElem?_eq_some_iff.1 hb').1
  · cases hc
theorem strs_laid {P : Program} {W : World} {name : String} {ws : List ByteArray} {rest : List (String × DataW Unit)} {g : Nat} {t e : TypeId} (hg : P.globalNamed name = some g) (hty : (P.globals[g]?).map (·.type) = some t)
    (ht : P.underlying t = some (.slice e)) (he : P.underlying e = some .string) (hce : P.cellsOf e = 1) (hws : 0 < ws.length) (h : laidMet P ((name, .slice (ws.map fun x => .lit (.string x.data.toList)) []) :: rest) W) :
    RelD W (PrW W) (.ptr [.sl (ws.map .s)]) (.pointer (some ⟨g, 0, none⟩)) := by
  obtain ⟨ps, ⟨g', t', cs, fuel, p, q, hg', ht', hvar, hd, _, _⟩, _⟩ := h
  obtain rfl := Option.some.inj (hg.symm.trans hg')
  obtain rfl := Option.some.inj (hty.symm.trans ht')
  rcases DataW.trod_slice ht hd with ⟨_, hx⟩ | ⟨a, len, cap, elems, rs, n, _, hcs, hx, _, hlc, _, hel, hget, _, _⟩
  · cases hx
  · have hx1 : ws.map (fun x => (DataW.lit (.string x.data.toList) : DataW Unit)) = elems.map (·.1) := by
      have := congrArg Prod.fst hx
      simp only at this
      injection this with h1 _
    have hl : elems.length = ws.length := by have := congrArg List.length hx1; simpa using this.symm
    have elem : ∀ i (hi : i < ws.length), ∃ b off, a = ⟨b, off, none⟩ ∧ W.cell? ⟨b, off + i, none⟩ = some (.string ws[i]) := by
      intro i hi
      have h1 := hget i (by omega)
      rw [List.getElem?_eq_getElem (by omega), hce] at h1
      cases hc : W.cells? 0 (a.add (i * 1)) 1 with
      | none => rw [hc] at h1; cases h1
      | some cs' =>
        rw [hc] at h1
        simp only [Option.bind_some] at h1
        obtain ⟨_, _, k3⟩ := World.cells?_some hc
        obtain ⟨s, rfl, h2, _⟩ := DataW.trod_string he h1
        have h3 := k3 0 (by omega)
        have h4 : (ws.map (fun x => (DataW.lit (.string x.data.toList) : DataW Unit)))[i]? = (elems.map (·.1))[i]? := by rw [hx1]
        rw [List.getElem?_map, List.getElem?_map, List.getElem?_eq_getElem hi, List.getElem?_eq_getElem (by omega), h2] at h4
        simp only [Option.map_some, Option.some.injEq, DataW.lit.injEq, Lit.string.injEq] at h4
        have h5 : s = ws[i] := ByteArray.ext (Array.toList_inj.1 h4.symm)
        subst h5
        obtain ⟨b, off, spot⟩ := a
        have h6 := add_cell h3
        have h0 : spot = none := by
          have h1 := hget 0 (by omega)
          rw [List.getElem?_eq_getElem (by omega), hce] at h1
          cases hc : W.cells? 0 ((⟨b, off, spot⟩ : Addr).add (0 * 1)) 1 with
          | none => rw [hc] at h1; cases h1
          | some cs2 =>
            rw [hc] at h1
            simp only [Option.bind_some] at h1
            obtain ⟨_, _, k3⟩ := World.cells?_some hc
            obtain ⟨s, rfl, _, _⟩ := DataW.trod_string he h1
            have h3 := k3 0 (by omega)
            simp only [Nat.zero_mul, Addr.add, if_true] at h3
            exact cell_spot h3
        exact ⟨b, off, by rw [h0], by simpa using h6⟩
    obtain ⟨b, off, rfl, _⟩ := elem 0 hws
    have elem2 : ∀ i (hi : i < ws.length), W.cell? ⟨b, off + i, none⟩ = some (.string ws[i]) := by
      intro i hi
      obtain ⟨b', off', e, hc⟩ := elem i hi
      cases e; exact hc
    have hcell : W.cell? ⟨g, 0, none⟩ = some (.slice (some ⟨b, off, none⟩) len cap) := by
      have := World.var?_cell hg hvar 0
      rw [this]
      have hcs' : cs.toList[0]? = some (.slice (some ⟨b, off, none⟩) len cap) := by rw [hcs]; rfl
      simpa using hcs'
    refine .ptr [.sl (ws.map .s)] g 0 (fun _ => .slice (some ⟨b, off, none⟩) len cap) (fun j hj => cell_lt hcell) (fun j hj => ?_) fun j hj => ?_
    · obtain rfl : j = 0 := by simpa using hj
      exact hcell
    · obtain rfl : j = 0 := by simpa using hj
      have e : len = (ws.map D.s).length := by rw [List.length_map]; omega
      rw [e]
      refine .sl (ws.map .s) b off cap 1 (fun i j => .string (ws.getD i ByteArray.empty)) (by rw [← e]; exact hlc) (fun i hi => by rw [List.getElem_map]; rfl) (fun i j hi hj => ?_) (fun i j hi hj => ?_) fun i hi j hj => ?_
      · have hi' : i < ws.length := by simpa using hi
        have := elem2 i hi'
        obtain rfl : j = 0 := by omega
        rw [Nat.mul_one, Nat.add_zero]
        exact cell_lt this
      · have hi' : i < ws.length := by simpa using hi
        have := elem2 i hi'
        obtain rfl : j = 0 := by omega
        rw [Nat.mul_one, Nat.add_zero, List.getD, List.getElem?_eq_getElem hi']
        exact this
      · have hi' : i < ws.length := by simpa using hi
        have e2 : ∀ (ds : List D) (q : ds = [D.s (ws.getD i ByteArray.empty)]) (hq : j < ds.length), RelD W (PrW W) ds[j] (.string (ws.getD i ByteArray.empty)) := by
          rintro _ rfl hq
          obtain rfl : j = 0 := by simpa using hq
          exact .val _
        exact e2 _ (by rw [List.getElem_map, List.getD, List.getElem?_eq_getElem hi']; rfl) _
theorem vars_len1 {H : Type} {enc : TypeId × Value → H} {P : Program} {w : World} {sp : Nat → Bool} {n : String} {gs : List (DataW H)} {q : List MemPlace} (h : DataW.TrodVars enc P w sp [n] gs q) : ∃ g0, gs = [g0] := by
  match gs, h with
  | [], h => exact h.elim
  | [g], _ => exact ⟨g, rfl⟩
  | g :: g' :: r, ⟨_, _, _, _, _, _, _, _, _, _, h, _⟩ => exact h.elim
end Go.PL

/- ARXl -/
namespace Go.PL
open Go Go.Proofs
/-- What is laid, as the machine reads it. -/
structure LaidOk (W : World) : Prop where
  ex : ∃ g, Tryz.prog.globalNamed tabName = some g ∧ Lib.TabIs Tryz.prog W tabName .u64 Lib.pow10Tab
  dat : ∀ x ∈ TT.gs, RelD W (PrW W) (.ptr x.2) (.pointer (some ⟨x.1, 0, none⟩))
theorem callTrueV {f : FuncId} {xs : List D} (h : CC f (xs.map .d) [] (.d (.b true)) []) {W : World} (hL : LaidOk W) {vs : Array Value} (hl : vs.size = xs.length) (hv : ∀ i (hi : i < xs.length), RelD W (PrW W) xs[i] (vs[i]'(by omega))) :
    Calls Tryz.prog f vs W fun e W' => e = .returned (.bool true) ∧ RowKit.Below W.heap.size W W' := by
  obtain ⟨g, hg, ht⟩ := hL.ex
  obtain ⟨et, fr, hG⟩ := gok_of hg ht ⟨fun _ => 0, fun _ => 0, fun _ => none⟩ hL.dat
  have hs := Den.says (T := TT) (gl := glT g et fr) (by kernel_rfl) (xn_says rfl hg) h
  refine (hs.2 W (PrW W) ⟨fun _ => 0, fun _ => 0, fun _ => none⟩ vs (memW W _) hG (by simpa using hl) fun i hi => ?_).mono fun e W' ⟨u, Pr', p', h1, h2, h3⟩ => ?_
  · have hi' : i < xs.length := by simpa using hi
    have e1 : ∀ (y : V) (q : y = .d xs[i]), RelV W (PrW W) ⟨fun _ => 0, fun _ => 0, fun _ => none⟩ [] y (vs[i]'(by omega)) := by rintro _ rfl; exact .d (hv i hi')
    exact e1 _ (by rw [List.getElem_map])
  · subst h1
    cases h3 with
    | d h3 => cases h3; exact ⟨rfl, Below.of_inv h2⟩
/-- The law's contract as the machine bears it. -/
theorem callTrueL {f : FuncId} {x : D} (h : CC f [.d x] [] (.d (.b true)) []) {W : World} (hL : LaidOk W) {v : Value} (hv : RelD W (PrW W) x v) : Calls Tryz.prog f #[v] W fun e W' => e = .returned (.bool true) ∧ RowKit.Below W.heap.size W W' :=
  callTrueV (xs := [x]) h hL rfl fun i hi => by
    obtain rfl : i = 0 := by simpa using hi
    exact hv
theorem callTrueL2 {f : FuncId} {x y : D} (h : CC f [.d x, .d y] [] (.d (.b true)) []) {W : World} (hL : LaidOk W) {v u : Value} (hv : RelD W (PrW W) x v) (hu : RelD W (PrW W) y u) : Calls Tryz.prog f #[v, u] W fun e W' => e = .returned (.bool true) ∧ RowKit.Below W.heap.size W W' :=
  callTrueV (xs := [x, y]) h hL rfl fun i hi => by
    rcases (show i = 0 ∨ i = 1 by simp at hi; omega) with rfl | rfl
    · exact hv
    · exact hu
end Go.PL
