/- A plain machine, sound for the given model, and contracts of functions over it, part 51: AXR. Nothing is assumed. -/
import Derived.Test.YtapgbbaefieibacGreatDoorG42
import Derived.Test.YtapgbbaefieibacGreatDoorG48
import Derived.Test.YtapgbbaefieibacGreatDoorAN2
import Derived.Lib.AtoiErrMem
import Derived.Test.YtapgbbaefieibacGreatDoorRows
set_option linter.unusedSimpArgs false
set_option linter.unusedVariables false
set_option linter.unusedSectionVars false
/- AXR -/
namespace Go.PL
open Go Go.Proofs
/-- The table of powers of ten, where it lies. -/
def glT (g : Nat) (et : TypeId) (fr : Nat × Nat) : GL := ⟨[(g, .cells (Lib.pow10Tab.map fun z => Value.int .u64 z).toArray et fr)], TT.gs⟩
instance {g et fr} : TG TT (glT g et fr) := ⟨rfl⟩
theorem tab_of {g : Nat} {et : TypeId} {fr : Nat × Nat} {name : String} (hg : Tryz.prog.globalNamed name = some g) {w : World} {Pr : Pro} {p : Place} {os : List Ob} (h : GOk (glT g et fr) w Pr p os) : Lib.TabIs Tryz.prog w name .u64 Lib.pow10Tab := by
  unfold Lib.TabIs World.var?
  rw [hg]
  have := h.cell (g, .cells (Lib.pow10Tab.map fun z => Value.int .u64 z).toArray et fr) (by simp [glT])
  simp only [Option.bind_some]
  rw [this]
theorem gok_of {name : String} {g : Nat} (hg : Tryz.prog.globalNamed name = some g) {w : World} (h : Lib.TabIs Tryz.prog w name .u64 Lib.pow10Tab) (p : Place) {Pr : Pro} (hd : ∀ x ∈ TT.gs, RelD w Pr (.ptr x.2) (.pointer (some ⟨x.1, 0, none⟩))) : ∃ et fr, GOk (glT g et fr) w Pr p [] := by
  unfold Lib.TabIs World.var? at h
  rw [hg] at h
  simp only [Option.bind_some] at h
  split at h
  · rename_i cs et fr hh
    cases h
    exact ⟨et, fr, ⟨fun x hx => by simp only [glT, List.mem_singleton] at hx; subst hx; exact hh, fun x _ => Oc.nil, hd⟩⟩
  · cases h
theorem GOk.below {gl : GL} {w W : World} {Pr : Pro} {p : Place} (h : GOk gl w Pr p []) (hM : Mem w Pr p []) (hb : RowKit.Below w.heap.size w W) : GOk gl W Pr p [] :=
  ⟨fun x hx => (hb.block x.1 (Array.getElem?_eq_some_iff.1 (h.cell x hx)).1).trans (h.cell x hx), fun x _ => Oc.nil, fun x hx => (h.dat x hx).mono (Inv.grown hM hb).stab⟩
theorem Says.scalM {P : Program} {gl : GL} {f : FuncId} {fn : Func} {ds : List D} {u : Value} (hf : P.funcs[f]? = some fn) (hn : (fn.name == "runtime.NumGoroutine") = false) (hb : fn.body.isNone = false)
    (h : ∀ (w : World) (Pr : Pro) (p : Place) (vals : Array Value), Mem w Pr p [] → GOk gl w Pr p [] → (hl : vals.size = ds.length) → (∀ i (hi : i < ds.length), RelD w Pr ds[i] (vals[i]'(by omega))) → Calls P f vals w fun e w' => e = .returned u ∧ RowKit.Below w.heap.size w w') :
    Says P gl f (ds.map .d) [] (.d (.val u)) [] := by
  refine ⟨⟨fn, hf, hn, hb⟩, fun w Pr p vals hM hG hl hr => (h w Pr p vals hM hG (by simpa using hl) fun i hi => ?_).mono fun e w' ⟨h1, h2⟩ => ⟨u, Pr, p, h1, Inv.grown hM h2, .d (.val _)⟩⟩
  have h3 := hr i (by simpa using hi)
  rw [List.getElem_map] at h3
  generalize vals[i]'(by rw [hl]; simpa using hi) = v at h3 ⊢
  cases h3 with
  | d h3 => exact h3
/-- A slice of texts, as the library's contract reads it. -/
theorem strs_of {w : World} {Pr : Pro} {ws : List ByteArray} {v : Value} (h : RelD w Pr (.sl (ws.map .s)) v) :
    (ws = [] ∧ ∃ A cap, v = .slice A 0 cap) ∨ ∃ b off cap, v = .slice (some ⟨b, off, none⟩) ws.length cap ∧ (ws ≠ [] → b < w.heap.size) ∧ ws.length ≤ cap ∧ ∀ (j : Nat) x, ws[j]? = some x → w.cell? ⟨b, off + j, none⟩ = some (.string x) := by
  generalize hd : D.sl (ws.map .s) = d at h
  cases h with
  | val v => cases hd
  | agg => cases hd
  | ptr => cases hd
  | fn => cases hd
  | nil A cap => exact .inl ⟨by simpa using hd, A, cap, rfl⟩
  | sl es b off cap sz vs hcap hsz hp hc hr =>
    injection hd with hd
    subst hd
    rw [List.length_map] at hcap ⊢
    have hcell : ∀ (j : Nat) x, ws[j]? = some x → w.cell? ⟨b, off + j, none⟩ = some (.string x) := by
      intro j x hx
      obtain ⟨hj, rfl⟩ := List.getElem?_eq_some_iff.1 hx
      have hj' : j < (ws.map D.s).length := by rw [List.length_map]; exact hj
      have h1 := hsz j hj'
      rw [List.getElem_map] at h1
      have h1' : sz = 1 := h1.symm
      subst h1'
      have h2 := hc j 0 hj' (by omega)
      have h3 := hr j hj' 0 (by rw [List.getElem_map]; exact Nat.one_pos)
      have h4 : RelD w Pr (.s ws[j]) (vs j 0) := by
        have e : ∀ (ds : List D) (q : ds = [D.s ws[j]]) (hq : 0 < ds.length), RelD w Pr ds[0] (vs j 0) → RelD w Pr (.s ws[j]) (vs j 0) := by
          rintro _ rfl _ h; exact h
        exact e _ (by rw [List.getElem_map]; rfl) _ h3
      have h5 : vs j 0 = .string ws[j] := by
        generalize vs j 0 = u at h4
        cases h4; rfl
      rw [h5] at h2
      have e : off + j * 1 + 0 = off + j := by omega
      rw [e] at h2
      exact h2
    refine .inr ⟨b, off, cap, rfl, fun hne => ?_, hcap, hcell⟩
    match ws, hne with
    | x :: r, _ =>
      have := hcell 0 x rfl
      unfold World.cell? at this
      split at this
      · rename_i hh; exact (Array.getElem?_eq_some_iff.1 hh).1
      · cases this
theorem xn_says {g : Nat} {et : TypeId} {fr : Nat × Nat} {name : String} (hn : name = tabName) (hg : Tryz.prog.globalNamed name = some g) : ∀ f a os r os', Xn f a os r os' → Says Tryz.prog (glT g et fr) f a os r os' := by
  rintro f a os r os' ⟨rfl, rfl, ⟨rfl, n, h0, h1, rfl, rfl⟩ | ⟨rfl, a, ha0, ha1, rfl, rfl⟩ | ⟨rfl, ws, s, hl0, hj, rfl, rfl⟩ | ⟨rfl, o, a, b, n, ho1, ho2, rfl, rfl⟩⟩
  · refine Says.scal (ds := [.i n]) Tryz.func53 (by decide) rfl fun w Pr p vals hG hl hr => ?_
    have hv : vals = #[.int .i64 n] := by
      have h2 := hr 0 (by simp)
      refine Array.ext (by simpa using hl) fun i hi hi' => ?_
      obtain rfl : i = 0 := by simp at hi'; omega
      simp only [List.getElem_cons_zero] at h2
      generalize vals[0] = v at h2
      cases h2; rfl
    subst hv
    subst hn
    refine (Any.strconv_Itoa Tryz.laysM171 n h0 h1 w (tab_of hg hG)).mono ?_
    rintro e w' ⟨rfl, k, os, rfl⟩
    exact ⟨rfl, Below.growN⟩
  · refine Says.scalM (ds := [.sl (a.map .i)]) Tryz.func80 (by decide) rfl fun w Pr p vals hM hG hl hr => ?_
    obtain ⟨v, hv⟩ : ∃ v, vals = #[v] := by
      refine ⟨vals[0]'(by rw [hl]; exact Nat.one_pos), Array.ext (hl.trans rfl) fun i hi hi' => ?_⟩
      obtain rfl : i = 0 := by simpa using hi'
      rfl
    subst hv
    subst hn
    exact natText_calls a ha1 ha0 hM.prIn (hr 0 (by simp)) fun W hb => tab_of hg (hG.below hM hb)
  · refine Says.scal (ds := [.sl (ws.map .s), .s s]) Tryz.func79 (by decide) rfl fun w Pr p vals hG hl hr => ?_
    have h2 := hr 0 (by simp)
    have h3 := hr 1 (by simp)
    obtain ⟨a0, hv⟩ : ∃ a0, vals = #[a0, .string s] := by
      refine ⟨vals[0]'(by rw [hl]; simp), Array.ext (by simpa using hl) fun i hi hi' => ?_⟩
      simp only [List.getElem_cons_zero, List.getElem_cons_succ] at h2 h3
      rcases (show i = 0 ∨ i = 1 by simp at hi'; omega) with rfl | rfl
      · rfl
      · generalize vals[1] = v at h3
        cases h3; rfl
    subst hv
    simp only [List.getElem_cons_zero, List.getElem_toArray] at h2
    have hws : ws = [] ∨ ws ≠ [] := by cases ws <;> simp
    rcases strs_of h2 with ⟨rfl, A, cap, rfl⟩ | ⟨b, off, cap, rfl, hb, hcap, hcells⟩
    · refine (Any.strings_Join_none Tryz.lays156 Tryz.Builder_Extra_156 A cap s w).mono ?_
      rintro e w' ⟨rfl, rfl⟩
      exact ⟨rfl, RowKit.Below.refl _ _⟩
    · rcases hws with rfl | hne
      · refine (Any.strings_Join_none Tryz.lays156 Tryz.Builder_Extra_156 _ cap s w).mono ?_
        rintro e w' ⟨rfl, rfl⟩
        exact ⟨rfl, RowKit.Below.refl _ _⟩
      refine (Any.strings_Join Tryz.lays156 Tryz.Builder_Extra_156 b off cap ws s w hcells (hb hne) (by omega) hcap hj).mono ?_
      rintro e w' ⟨rfl, hbel⟩
      exact ⟨rfl, hbel⟩
  · refine Says.scal (ds := [.agg [.i o, .i a, .i b, .i n]]) Tryz.func99 (by decide) rfl fun w Pr p vals hG hl hr => ?_
    have hv : vals = #[.agg #[.int .i64 o, .int .i64 a, .int .i64 b, .int .i64 n]] := by
      have h2 := hr 0 (by simp)
      refine Array.ext (by simpa using hl) fun i hi hi' => ?_
      obtain rfl : i = 0 := by simp at hi'; omega
      simp only [List.getElem_cons_zero] at h2
      generalize vals[0] = v at h2
      cases h2 with
      | agg cs vs hs hq =>
        have q0 := hq 0 (by simp)
        have q1 := hq 1 (by simp)
        have q2 := hq 2 (by simp)
        have q3 := hq 3 (by simp)
        simp only [List.getElem_cons_zero, List.getElem_cons_succ] at q0 q1 q2 q3
        show Value.agg vs = _
        congr 1
        refine Array.ext (hs.trans rfl) fun j hj hj' => ?_
        rcases (show j = 0 ∨ j = 1 ∨ j = 2 ∨ j = 3 by simp at hj'; omega) with rfl | rfl | rfl | rfl
        · generalize vs[0] = u at q0; cases q0; rfl
        · generalize vs[1] = u at q1; cases q1; rfl
        · generalize vs[2] = u at q2; cases q2; rfl
        · generalize vs[3] = u at q3; cases q3; rfl
    subst hv
    exact signOf_calls o a b n ⟨ho1, ho2⟩ w
end Go.PL
