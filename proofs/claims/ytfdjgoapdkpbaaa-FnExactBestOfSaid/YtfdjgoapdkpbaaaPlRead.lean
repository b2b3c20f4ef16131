/- A plain machine, sound for the given model, and contracts of functions over it, part 28: PlRead. Nothing is assumed. -/
import Derived.Test.YtfdjgoapdkpbaaaG15
import Derived.SizedLaws
import Derived.Carry
import Derived.OpenShut
import Derived.ChangeOld
import Derived.ShutString
import Derived.WalkKit
import Derived.ProofKit
set_option linter.unusedSimpArgs false
set_option linter.unusedVariables false
set_option linter.unusedSectionVars false
/- PlRead -/
/- Memory as the statements read it, as data of the plain machine. -/
namespace Go.PL
open Go

/-- All that was there when the call began. -/
def PrW (w : World) : Pro := fun b _ => b < w.heap.size

theorem memW (w : World) (p : Place) : Mem w (PrW w) p [] := ⟨fun _ _ h => h, fun o ob h => by simp at h, fun o o' a b h => by simp at h, fun o ob h => by simp at h, fun o ob k c h => by simp at h⟩

/-- Cells as data. -/
structure CR (w : World) (cs : List Value) (ds : List D) : Prop where
  len : ds.length = cs.length
  rel : ∀ i (h : i < ds.length) (h' : i < cs.length), RelD w (PrW w) ds[i] cs[i]

theorem CR.nil {w : World} : CR w [] [] := ⟨rfl, fun i h => by simp at h⟩
theorem CR.one {w : World} {v : Value} {d : D} (h : RelD w (PrW w) d v) : CR w [v] [d] := ⟨rfl, fun i h1 h2 => by
  obtain rfl : i = 0 := by simpa using h1
  exact h⟩
theorem CR.app {w : World} {a b : List Value} {x y : List D} (h : CR w a x) (k : CR w b y) : CR w (a ++ b) (x ++ y) := by
  refine ⟨by simp [h.len, k.len], fun i h1 h2 => ?_⟩
  by_cases hi : i < x.length
  · rw [List.getElem_append_left hi, List.getElem_append_left (by rw [← h.len]; exact hi)]
    exact h.rel i hi _
  · rw [List.getElem_append_right (by omega), List.getElem_append_right (by rw [← h.len]; omega)]
    have := h.len
    have e : ∀ n m (q : n = m) (hn : n < y.length) (hm : m < b.length), RelD w (PrW w) y[n] b[m] := by
      intro n m q hn hm; subst q; exact k.rel n hn hm
    exact e _ _ (by rw [this]) _ _

section
variable {H : Type} {enc : TypeId × Value → H} {P : Program} {w : World}

/-- What a type's cells are read to. -/
def Rd (enc : TypeId × Value → H) (P : Program) (w : World) (t : TypeId) {α : Type} (e : α → List D) (Q : α → Prop) : Prop :=
  ∀ fuel cs (x : DataW H × List MemPlace), DataW.trod enc P w 0 (fun _ => true) true fuel t cs = some x → (∀ k ∈ x.1.weights P t, k ≤ reachBytes) → ∃ a, Q a ∧ CR w cs (e a)

theorem Rd.map {t : TypeId} {α β : Type} {e : α → List D} {e' : β → List D} {Q : α → Prop} {Q' : β → Prop} (h : Rd enc P w t e Q) (g : α → β) (he : ∀ a, e' (g a) = e a) (hq : ∀ a, Q a → Q' (g a)) : Rd enc P w t e' Q' := by
  intro fuel cs x h1 h2
  obtain ⟨a, k1, k2⟩ := h fuel cs x h1 h2
  exact ⟨g a, hq a k1, by rw [he]; exact k2⟩

theorem Rd.int {t : TypeId} (ht : P.underlying t = some (.int .i64)) : Rd enc P w t (fun n : Int => [.i n]) (fun n => -9223372036854775808 ≤ n ∧ n ≤ 9223372036854775807) := by
  intro fuel cs x h _
  obtain ⟨n, rfl, _, hw⟩ := DataW.trod_int ht h
  refine ⟨n, ?_, .one (.val _)⟩
  simp only [Lit.wf, Bool.and_eq_true, decide_eq_true_eq] at hw
  exact hw

theorem Rd.bool {t : TypeId} (ht : P.underlying t = some .bool) : Rd enc P w t (fun b : Bool => [.b b]) (fun _ => True) := by
  intro fuel cs x h _
  obtain ⟨b, rfl, _⟩ := DataW.trod_bool ht h
  exact ⟨b, trivial, .one (.val _)⟩

theorem Rd.str {t : TypeId} (ht : P.underlying t = some .string) : Rd enc P w t (fun s : ByteArray => [.s s]) (fun s => s.size ≤ reachBytes) := by
  intro fuel cs x h hw
  obtain ⟨s, rfl, rfl, _⟩ := DataW.trod_string ht h
  refine ⟨s, ?_, .one (.val _)⟩
  have := hw _ (by simp [DataW.weights]; rfl)
  exact this

theorem list_of {α : Type} {R : Nat → α → Prop} : ∀ n, (∀ i, i < n → ∃ a, R i a) → ∃ l : List α, l.length = n ∧ ∀ i (h : i < l.length), R i l[i]
  | 0, _ => ⟨[], rfl, fun i h => by simp at h⟩
  | n + 1, h => by
    obtain ⟨l, h1, h2⟩ := list_of n fun i hi => h i (by omega)
    obtain ⟨a, ha⟩ := h n (by omega)
    refine ⟨l ++ [a], by simp [h1], fun i hi => ?_⟩
    by_cases hil : i < l.length
    · rw [List.getElem_append_left hil]; exact h2 i hil
    · obtain rfl : i = n := by simp at hi; omega
      rw [List.getElem_append_right (by omega)]
      simpa using ha

theorem weights_mem {te : TypeId} {k : Nat} : ∀ {l : List (DataW H)} {d : DataW H}, d ∈ l → k ∈ d.weights P te → k ∈ DataW.weightsAll P te l
  | y :: r, d, h, hk => by
    simp only [DataW.weightsAll, List.mem_append]
    rcases List.mem_cons.1 h with rfl | h
    · exact .inl hk
    · exact .inr (weights_mem h hk)

theorem Rd.slice {t te : TypeId} {sz by_ : Nat} {α : Type} {e : α → List D} {Q : α → Prop} (mk : α → D) (ht : P.underlying t = some (.slice te)) (hn : P.cellsOf te = sz) (hb : P.bytesOf te = by_) (h0 : 0 < sz)
    (hmk : ∀ a, (mk a).cells = e a) (hsz : ∀ a, (e a).length = sz) (h : Rd enc P w te e Q) : Rd enc P w t (fun l : List α => [.sl (l.map mk)]) (fun l => l.length * by_ ≤ reachBytes ∧ ∀ x ∈ l, Q x) := by
  intro fuel cs x hx hw
  rcases DataW.trod_slice ht hx with ⟨rfl, rfl⟩ | ⟨a, len, cap, elems, rest, n, rfl, rfl, rfl, _, hlc, hcm, hel, hget, _, _⟩
  · exact ⟨[], ⟨by simp [reachBytes], fun x hx => by simp at hx⟩, .one (.nil none 0)⟩
  · simp only [DataW.weights, ht, List.length_map] at hw
    have hlen : len * by_ ≤ reachBytes := by
      have := hw _ (List.mem_cons_self ..)
      rw [hb, hel] at this
      exact Nat.le_trans (Nat.mul_le_mul_right _ (Nat.le_add_right _ _)) this
    have elem : ∀ i, i < len → ∃ z, (Q z ∧ ∃ cs', (∀ j, j < sz → w.cell? ((a.add (i * sz)).add j) = cs'[j]?) ∧ CR w cs' (e z)) := by
      intro i hi
      have hi' : i < elems.length := by omega
      have h1 := hget i hi
      rw [List.getElem?_eq_getElem hi', hn] at h1
      cases hc : w.cells? 0 (a.add (i * sz)) sz with
      | none => rw [hc] at h1; cases h1
      | some cs' =>
        rw [hc] at h1
        simp only [Option.bind_some] at h1
        obtain ⟨_, _, k3⟩ := World.cells?_some hc
        obtain ⟨z, z1, z2⟩ := h n cs' elems[i] h1 fun k hk => hw k (List.mem_cons_of_mem _ (List.mem_append_left _ (weights_mem (List.mem_map.2 ⟨elems[i], List.getElem_mem hi', rfl⟩) hk)))
        exact ⟨z, z1, cs', k3, z2⟩
    obtain ⟨l, hl, hall⟩ := list_of len elem
    refine ⟨l, ⟨by rw [hl]; exact hlen, fun x hx => ?_⟩, .one ?_⟩
    · obtain ⟨i, hi, rfl⟩ := List.getElem_of_mem hx
      exact (hall i hi).1
    · rcases Nat.eq_zero_or_pos len with hz | hz
      · subst hz
        have : l = [] := List.eq_nil_of_length_eq_zero hl
        subst this
        exact .nil (some a) cap
      · obtain ⟨b, off, spot⟩ := a
        have cell : ∀ i (hi : i < l.length) j, j < sz → ∃ v, ∃ hj : j < (e l[i]).length, cellAt w b (off + i * sz + j) = some v ∧ RelD w (PrW w) (e l[i])[j] v ∧ (i = 0 → j = 0 → spot = none) := by
          intro i hi j hj
          obtain ⟨_, cs', k1, k2⟩ := hall i hi
          have hj2 : j < (e l[i]).length := by rw [hsz]; exact hj
          have hj3 : j < cs'.length := by rw [← k2.len]; exact hj2
          have k3 := k1 j hj
          rw [List.getElem?_eq_getElem hj3] at k3
          refine ⟨cs'[j], hj2, ?_, k2.rel j hj2 hj3, ?_⟩
          · have e1 : ∀ m k, w.cell? ((Addr.add ⟨b, off, spot⟩ m).add k) = some cs'[j] → w.cell? ⟨b, off + m + k, none⟩ = some cs'[j] := by
              intro m k hc
              unfold Addr.add at hc
              by_cases hk : k = 0
              · subst hk
                rw [if_pos rfl] at hc
                by_cases hm : m = 0
                · subst hm
                  rw [if_pos rfl] at hc
                  unfold World.cell? at hc ⊢
                  simp only [Nat.add_zero] at hc ⊢
                  split at hc
                  · split at hc
                    · cases hc
                    · simpa using hc
                  · cases hc
                · rw [if_neg hm] at hc; exact hc
              · rw [if_neg hk] at hc
                by_cases hm : m = 0
                · subst hm
                  rw [if_pos rfl] at hc; exact hc
                · rw [if_neg hm] at hc; exact hc
            exact e1 _ _ k3
          · rintro rfl rfl
            simp only [Nat.zero_mul, Addr.add, if_true] at k3
            unfold World.cell? at k3
            split at k3
            · split at k3
              · cases k3
              · rename_i hs; cases spot with
                | none => rfl
                | some _ => simp at hs
            · cases k3
        obtain ⟨_, _, _, _, hsp⟩ := cell 0 (by omega) 0 h0
        obtain rfl := hsp rfl rfl
        rw [← hl, ← List.length_map (f := mk)]
        refine .sl (l.map mk) b off cap sz (fun i j => (cellAt w b (off + i * sz + j)).getD (.int .i64 0)) (by rw [List.length_map]; omega) (fun i hi => by rw [List.getElem_map, hmk, hsz]) (fun i j hi hj => ?_) (fun i j hi hj => ?_) fun i hi j hj => ?_
        · obtain ⟨v, _, hc, _⟩ := cell i (by simpa using hi) j hj
          unfold cellAt World.cell? at hc
          split at hc
          · rename_i hb'; exact (Array.getElem?_eq_some_iff.1 hb').1
          · cases hc
        · obtain ⟨v, _, hc, _⟩ := cell i (by simpa using hi) j hj
          rw [hc]; rfl
        · have hi' : i < l.length := by simpa using hi
          have hj' : j < sz := by rw [List.getElem_map, hmk, hsz] at hj; exact hj
          obtain ⟨v, hj2, hc, hr, _⟩ := cell i hi' j hj'
          rw [hc]
          simp only [Option.getD_some]
          have e2 : ∀ (ds : List D) (hq : ds = e l[i]) (hds : j < ds.length), RelD w (PrW w) ds[j] v := by
            rintro _ rfl hds; exact hr
          exact e2 _ (by rw [List.getElem_map, hmk]) hj

/-- A struct's fields, from a place on. -/
def RdF (enc : TypeId × Value → H) (P : Program) (w : World) (off : Nat) (fs : List Field) (tot : Nat) {α : Type} (e : α → List D) (Q : α → Prop) : Prop :=
  ∀ (fuel : Nat) (cs : List Value) (xs : List (DataW H × List MemPlace)), xs.length = fs.length → (∀ (i : Nat) (f : Field), fs[i]? = some f → DataW.trod enc P w 0 (fun _ => true) true fuel f.type ((cs.drop f.offset).take (P.cellsOf f.type)) = xs[i]?) →
    (∀ k ∈ DataW.weightsEach P (fs.map (·.type)) (xs.map (·.1)), k ≤ reachBytes) → ∃ a, Q a ∧ CR w ((cs.drop off).take tot) (e a)

theorem RdF.nil {off : Nat} : RdF enc P w off [] 0 (fun _ : Unit => []) (fun _ => True) := fun _ _ _ _ _ _ => ⟨(), trivial, by rw [List.take_zero]; exact .nil⟩

theorem RdF.cons {off n tot : Nat} {f : Field} {r : List Field} {α β : Type} {e : α → List D} {e' : β → List D} {Q : α → Prop} {Q' : β → Prop} (hoff : f.offset = off) (hn : P.cellsOf f.type = n) (h : Rd enc P w f.type e Q) (k : RdF enc P w (off + n) r tot e' Q') :
    RdF enc P w off (f :: r) (n + tot) (fun x : α × β => e x.1 ++ e' x.2) (fun x => Q x.1 ∧ Q' x.2) := by
  intro fuel cs xs hl hget hw
  cases xs with
  | nil => simp at hl
  | cons x xs =>
    have h0 := hget 0 f rfl
    simp only [List.getElem?_cons_zero] at h0
    simp only [List.map_cons, DataW.weightsEach, List.mem_append] at hw
    obtain ⟨a, ha1, ha2⟩ := h fuel _ x h0 fun k hk => hw k (.inl hk)
    obtain ⟨b, hb1, hb2⟩ := k fuel cs xs (by simpa using hl) (fun i g hg => by have := hget (i + 1) g (by simpa using hg); simpa using this) fun k hk => hw k (.inr hk)
    refine ⟨(a, b), ⟨ha1, hb1⟩, ?_⟩
    rw [List.take_add, List.drop_drop]
    rw [hoff, hn] at ha2
    exact ha2.app hb2

theorem Rd.struct {t : TypeId} {fs : Array Field} {tot : Nat} {α : Type} {e : α → List D} {Q : α → Prop} (ht : P.underlying t = some (.struct fs)) (hc : P.cellsOf t = tot) (h : RdF enc P w 0 fs.toList tot e Q) : Rd enc P w t e Q := by
  intro fuel cs x hx hw
  obtain ⟨xs, n, rfl, rfl, hl, hxl, hget⟩ := DataW.trod_struct ht hx
  simp only [DataW.weights, ht] at hw
  obtain ⟨a, h1, h2⟩ := h n cs xs (by simpa using hxl) (fun i f hf => hget i f (by simpa using hf)) hw
  refine ⟨a, h1, ?_⟩
  rw [List.drop_zero, List.take_of_length_le (by omega)] at h2
  exact h2

/-- An argument that is a struct. -/
theorem Rd.argS {t : TypeId} {fs : Array Field} {α : Type} {e : α → List D} {Q : α → Prop} {base : Nat} {v : Value} {d : DataW H} {ps : List MemPlace} (h : Rd enc P w t e Q) (ht : P.underlying t = some (.struct fs)) (hv : Value.okWide P w .any base t v)
    (hx : DataW.Trod enc P w 0 (fun _ => true) true t v d ps) (hw : ∀ k ∈ d.weights P t, k ≤ reachBytes) : ∃ a, Q a ∧ RelD w (PrW w) (.agg (e a)) v := by
  unfold Value.okWide at hv
  rw [ht] at hv
  obtain ⟨cs, rfl, _, _⟩ := hv
  obtain ⟨fuel, hx⟩ := hx
  obtain ⟨a, h1, h2⟩ := h fuel _ _ hx hw
  refine ⟨a, h1, .agg (e a) cs ?_ fun i hi => ?_⟩
  · have := h2.len; rw [Array.length_toList] at this; exact this.symm
  · have h3 := h2.rel i hi (by rw [← h2.len]; exact hi)
    have e1 : ∀ (u u' : Value), u = u' → RelD w (PrW w) (e a)[i] u → RelD w (PrW w) (e a)[i] u' := fun _ _ q r => q ▸ r
    exact e1 _ _ (Array.getElem_toList ..) h3

theorem Below.of_inv {w w' : World} {Pr Pr' : Pro} {p p' : Place} {os' : List Ob} (h : Inv ⟨w, Pr, p, []⟩ w' Pr' p' os') : RowKit.Below w.heap.size w w' :=
  ⟨h.frm.os, h.frm.tape, h.frm.output, h.frm.size, fun k hk => h.frm.block k hk fun ⟨o, ob, h1, _⟩ => by simp at h1⟩
end
end Go.PL
