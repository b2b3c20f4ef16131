/- A plain machine, sound for the given model, and contracts of functions over it, part 50: AN2. Nothing is assumed. -/
import Derived.Test.YtapgbbaefieibacGreatDoorG49
import Derived.LaidLaws
set_option linter.unusedSimpArgs false
set_option linter.unusedVariables false
set_option linter.unusedSectionVars false
/- AN2 -/
namespace Go.PL
open Go Go.Proofs Go.RowKit Go.Shelf
set_option maxRecDepth 100000
set_option linter.unusedSimpArgs false
set_option linter.unusedVariables false
attribute [local go_sem] Oper.semAt_some
theorem sl_form {w : World} {Pr : Pro} {a : List Int} {v : Value} (h : RelD w Pr (encD a) v) : ∃ A cap, v = .slice A a.length cap := by
  generalize hd : encD a = d at h
  cases h with
  | val v => cases hd
  | agg => cases hd
  | ptr => cases hd
  | fn => cases hd
  | nil A cap =>
    have : a = [] := by simpa [encD] using hd
    subst this; exact ⟨A, cap, rfl⟩
  | sl es b off cap sz vs hcap hsz hp hc hr =>
    injection hd with hd
    subst hd
    rw [List.length_map]
    exact ⟨_, cap, rfl⟩
theorem heap_of_lt {w W : World} {B k : Nat} (h : Below B w W) (hk : k < B) : W.heap[k]? = w.heap[k]? := h.block k hk
/-- What holds between two rounds. -/
structure NTI (w : World) (A : Option Addr) (len cap : Nat) (bs : List UInt8) (W : World) : Prop where
  bld : Lib.IsBuilderF 116 5 (w.heap.size + 1) (w.heap.size + 1) (Lib.byteCells bs) W
  box : W.heap[w.heap.size]? = some (.cells #[.slice A len cap] 26 (0, 0))
  box2 : W.heap[w.heap.size + 2]? = some (.cells #[.slice A len cap] 26 (0, 0))
  below : Below w.heap.size w W
theorem isB_kept {T e : TypeId} {B b : Nat} {bs : List Value} {W W' : World} (h : Lib.IsBuilderF T e B b bs W) (hk : ∀ (k : Nat) (o : Obj), W.heap[k]? = some o → o.isCells = true → W'.heap[k]? = some o) : Lib.IsBuilderF T e B b bs W' := by
  have key : ∀ p, Lib.BuilderAtF T e B b p bs W → Lib.BuilderAtF T e B b p bs W' := by
    rintro p ⟨hB, v, h1, ⟨hl, h2⟩, h3⟩
    refine ⟨hB, v, hk _ _ h1 rfl, ⟨hl, ?_⟩, h3⟩
    rcases h2 with h2 | ⟨g, cap, cur, fz, q1, q2, q3, q4⟩
    · exact .inl h2
    · exact .inr ⟨g, cap, cur, fz, q1, q2, hk _ _ q3 rfl, q4⟩
  exact h.imp (key _) (key _)
theorem NTI.kept {w : World} {A : Option Addr} {len cap : Nat} {bs : List UInt8} {W W' : World} (h : NTI w A len cap bs W) (hk : ∀ (k : Nat) (o : Obj), W.heap[k]? = some o → o.isCells = true → W'.heap[k]? = some o) (hb : Below w.heap.size W W') : NTI w A len cap bs W' :=
  ⟨isB_kept h.bld hk, hk _ _ h.box rfl, hk _ _ h.box2 rfl, h.below.trans hb⟩
theorem NTI.size {w : World} {A : Option Addr} {len cap : Nat} {bs : List UInt8} {W : World} (h : NTI w A len cap bs W) : w.heap.size + 2 < W.heap.size := (Array.getElem?_eq_some_iff.1 h.box2).1
/-- Where all that was there stays. -/
theorem NTI.grown {w : World} {A : Option Addr} {len cap : Nat} {bs : List UInt8} {W W' : World} (h : NTI w A len cap bs W) (hb : Below W.heap.size W W') : NTI w A len cap bs W' :=
  h.kept (fun k o h1 _ => (hb.block k (Array.getElem?_eq_some_iff.1 h1).1).trans h1) (hb.mono (by have := h.size; omega))
theorem nti_own (w : World) (A : Option Addr) (len cap B : Nat) (hB : w.heap.size ≤ B) {β : Type} (f : β → List UInt8) : OwnFrom B (fun s W => NTI w A len cap (f s) W) := by
  intro s W W' row h hg hr
  refine h.kept (fun k o h1 h2 => (hg.block k (Array.getElem?_eq_some_iff.1 h1).1 fun e => ?_).trans h1) ?_
  · obtain ⟨_, o', h3, h4⟩ := hr k e.symm
    rw [h1] at h3; cases h3; rw [h2] at h4; cases h4
  · refine ⟨hg.os, hg.tape, hg.output, hg.size, fun k hk => hg.block k (by have := h.size; omega) fun e => ?_⟩
    have := (hr k e.symm).1
    omega
theorem NTI.cell {w : World} {A : Option Addr} {len cap : Nat} {bs : List UInt8} {W : World} (h : NTI w A len cap bs W) : W.cell? ⟨w.heap.size, 0, none⟩ = some (.slice A len cap) := by
  rw [Lib.cell_of_heap h.box]; rfl
theorem repL_eq (c : Nat) : Lib.repeatL [48] c = List.replicate c 48 := by
  induction c with
  | zero => rfl
  | succ c ih => rw [Lib.repeatL, ih]; rfl
set_option maxHeartbeats 4000000 in
theorem natText_calls (a : List Int) (ha : ∀ x ∈ a, 0 ≤ x ∧ x ≤ 9999) (hl : a.length ≤ 1048576) {w : World} {Pr : Pro} (hPr : ∀ b i, Pr b i → b < w.heap.size) {v : Value} (hv : RelD w Pr (encD a) v)
    (ht : ∀ W, Below w.heap.size w W → Lib.TabIs Tryz.prog W tabName .u64 Lib.pow10Tab) :
    Calls Tryz.prog 80 #[v] w fun e w' => e = .returned (.string (natTB a)) ∧ Below w.heap.size w w' := by
  obtain ⟨A, cap, rfl⟩ := sl_form hv
  refine (callsIn_wide (n := 5)).1 ?_
  refine callsIn_of_wp_marks Tryz.func80 rfl trivial ?_ rfl
  simp only [Tryz.ntmps80, List.size_toArray, List.length_cons, List.length_nil, Nat.reduceAdd, Nat.reduceSub, Array.replicate_succ, Array.replicate_zero, List.push_toArray, List.append_toArray, List.nil_append, List.cons_append]
  gi_wp2
  · rename_i h0
    have e0 : a = [] := by
      have : (a.length : Int) = 0 := by simpa using h0
      exact List.eq_nil_of_length_eq_zero (by omega)
    subst e0
    exact ⟨_, results_tmp rfl _ _ _, rfl, (Below.refl _ _).alloc (Nat.le_refl _) _⟩
  have h0 : ((a.length : Int) == 0) = false := by assumption
  have hne : a ≠ [] := by rintro rfl; exact absurd h0 (by decide)
  obtain ⟨lv, hlv, hlvP⟩ : ∃ lv : Fin a.length → Int, (∀ x, lv x = a.getD x.1 0) ∧ ∃ _ : Unit, ∀ x, lv x = a.getD x.1 0 := ⟨fun x => a.getD x.1 0, fun _ => rfl, (), fun _ => rfl⟩
  have hseq := fun (Z : Nat → Prop) (w : World) (Pr : Pro) (lb : Value) => back_stops (m := 4) a hlv (by omega) (Z := Z) (w := w) (Pr := Pr) (lb := lb)
  clear hlv
  refine ⟨trivial, (back_calls A a.length cap 4 _).mono ?_⟩
  rintro e W1 ⟨rfl, rfl⟩
  gi_wp2
  have hW1 : ((w.alloc (.cells #[.slice A a.length cap] 26)).alloc (.cells #[.pointer none, .slice none 0 0] 116)).heap.size = w.heap.size + 1 + 1 := by simp
  generalize hw1 : ((w.alloc (.cells #[.slice A a.length cap] 26)).alloc (.cells #[.pointer none, .slice none 0 0] 116)).alloc (.cells #[.slice A a.length cap] 26) = W1
  have hs1 : W1.heap.size = w.heap.size + 3 := by rw [← hw1]; simp
  have qn : ∀ (u : World) (o : Obj), (u.alloc o).heap[u.heap.size]? = some o := World.alloc_heap_new
  have qo : ∀ (u : World) (o : Obj) (k : Nat), k < u.heap.size → (u.alloc o).heap[k]? = u.heap[k]? := fun u o k hk => Go.RowKit.Below.heap_alloc u o k hk
  have hI0 : NTI w A a.length cap [] W1 := by
    subst hw1
    refine ⟨?_, ?_, ?_, ?_⟩
    · refine isB_kept (Lib.IsBuilderF.of ?_) (fun k o h _ => (qo _ _ k (Array.getElem?_eq_some_iff.1 h).1).trans h)
      have h := Lib.fresh_isBuilder 116 5 (w.alloc (.cells #[.slice A a.length cap] 26))
      simp only [World.size_alloc] at h
      exact h
    · rw [qo _ _ _ (by simp <;> omega), qo _ _ _ (by simp <;> omega)]; exact qn _ _
    · have h := qn ((w.alloc (.cells #[.slice A a.length cap] 26)).alloc (.cells #[.pointer none, .slice none 0 0] 116)) (.cells #[.slice A a.length cap] 26)
      simp only [World.size_alloc] at h
      exact h
    · exact (((Below.refl _ _).alloc (Nat.le_refl _) _).alloc (by simp) _).alloc (by simp; omega) _
  refine wpIn_rangeFunc_ownF rfl (by omega) (gf := 123) (lb := #[.pointer (some ⟨w.heap.size + 1 + 1, 0, none⟩)]) rfl trivial (enters_of Tryz.func123 (by kernel_rfl) rfl)
    (hseq (fun k => k < w.heap.size ∨ k = w.heap.size + 2) W1 (fun b i => Pr b i ∨ (b = w.heap.size + 2 ∧ i = 0)) _ ?hZ ?hPr ?hrel) (fun h k => h.trans k) ?hKb (Below.refl _ _) (fun _ => rfl)
    (fun pre W => NTI w A a.length cap (pre.map fun x => piece a x.1).flatten W) (fun _ _ _ => False) (nti_own w A a.length cap _ (by omega) _) (fun _ _ _ _ _ hs _ _ => hs) hI0
    (fun x => { tmps := #[.slice A a.length cap, .pointer (some ⟨w.heap.size, 0, none⟩), .string ⟨#[]⟩, .pointer (some ⟨w.heap.size + 1, 0, none⟩), .int .i64 x.1, .int .i64 (lv x), undef, .slice A a.length cap, .int .i64 a.length, .bool false, .agg #[.pointer none, .slice none 0 0], .slice A a.length cap, .func (.func 123) #[] #[.pointer (some ⟨w.heap.size + 1 + 1, 0, none⟩)], .int .i64 x.1, .int .i64 (lv x), undef, undef, undef, undef, undef, undef, undef, undef, undef, undef, undef, undef, undef, undef, undef, undef], defers := [] }) ?assign ?body ?done ?stop
  case hZ => intro k hk; omega
  case hPr =>
    rintro b i (h | ⟨rfl, rfl⟩)
    · exact .inl (hPr b i h)
    · exact .inr rfl
  case hrel =>
    refine .ptr [encD a] (w.heap.size + 2) 0 (fun _ => .slice A a.length cap) (fun j hj => .inr ⟨rfl, ?_⟩) (fun j hj => ?_) (fun j hj => ?_)
    · simp at hj; omega
    · obtain rfl : j = 0 := by simpa using hj
      show W1.cell? _ = _
      rw [Lib.cell_of_heap hI0.box2]; rfl
    · obtain rfl : j = 0 := by simpa using hj
      exact hv.mono ⟨fun b i h => .inl h, fun b i v h hc => by
        rw [cellAt_of_heap (hI0.below.block b (hPr b i h))]; exact hc⟩
  case hKb =>
    intro W l o o' h1 h2 _ _
    refine ⟨by rw [World.putObj_size]; exact Nat.le_refl _, fun k hk => World.putObj_heap_other (by omega)⟩
  case assign =>
    intro l x W K hK
    gi_wp2
    exact hK
  case body =>
    intro l pre x W hI hpre
    have hx : 0 ≤ lv x ∧ lv x ≤ 9999 := by obtain ⟨_, hq⟩ := hlvP; rw [hq]; exact ha _ (getD_mem 0 x.2)
    have hpc : piece a x.1 = if x.1 < a.length - 1 then pad4 (lv x) else Lib.decDigits (lv x).toNat := by obtain ⟨_, hq⟩ := hlvP; rw [hq]; rfl
    have hit : Lib.itoa (lv x) = Lib.decDigits (lv x).toNat := by
      obtain ⟨m, hm⟩ : ∃ m : Nat, lv x = m := ⟨(lv x).toNat, by omega⟩
      rw [hm, Lib.itoa_nonneg]; rfl
    have hdl := dec_len (n := (lv x).toNat) (by omega)
    gi_wp2
    refine ⟨trivial, (CallsIn.inRound l (callsIn_wide.2 (Any.strconv_Itoa Tryz.laysM171 (lv x) (by omega) (by omega) W (ht W hI.below)))).mono ?_⟩
    rintro e W2 ⟨rfl, k2, os2, hW2⟩
    have hb2 : Below W.heap.size W W2 := by rw [hW2]; exact Below.growN
    clear hW2
    have hI2 := hI.grown hb2
    have c1 := hI2.cell
    rw [hit]
    have post : ∀ (W3 : World) (t : List UInt8), t = piece a x.1 → NTI w A a.length cap (pre.map fun x => piece a x.1).flatten W3 → Below W.heap.size W W3 →
        Calls Tryz.prog 101 #[.pointer (some ⟨w.heap.size + 1, 0, none⟩), .string ⟨t.toArray⟩] W3 fun e W4 => (∃ v, e = .returned v) ∧ KeepsOthers W W4 ∧ KeepsZ (fun k => k < w.heap.size ∨ k = w.heap.size + 2) W W4 ∧ NTI w A a.length cap ((pre ++ [x]).map fun x => piece a x.1).flatten W4 := by
      rintro W3 t rfl h3 hb3
      have hlen := pieces_len ha pre
      have hpl := piece_len ha x.2
      have hsz := hI.size
      have esz : (⟨(piece a x.1).toArray⟩ : ByteArray).size = (piece a x.1).length := by simp [ByteArray.size]
      refine (Any.Builder_WriteString_k (P := Tryz.prog) (ρ := Tryz.lays105_ren) ({ Tryz.lays105 with }) Tryz.Builder_Extra_105 (w.heap.size + 1) (w.heap.size + 1) _ ⟨(piece a x.1).toArray⟩ W3 h3.bld (by rw [Lib.byteCells_length, esz]; omega) (by have := h3.size; omega)).mono ?_
      rintro e W4 ⟨rfl, hB, hbel, hoth⟩
      have k1 : ∀ (k : Nat) (o : Obj), W.heap[k]? = some o → W3.heap[k]? = some o := fun k o h => (hb3.block k (Array.getElem?_eq_some_iff.1 h).1).trans h
      refine ⟨⟨_, rfl⟩, ⟨Nat.le_trans hb3.size hbel.size, fun k o h ho => ?_⟩, ⟨Nat.le_trans hb3.size hbel.size, ?_⟩, ⟨.inr ?_, ?_, ?_, ?_⟩⟩
      · refine hoth k o (k1 k o h) ?_ fun c fz e => ?_
        · rintro e
          cases e
          obtain ⟨v, q⟩ : ∃ v, W.heap[w.heap.size + 1]? = some v ∧ v.isCells = true := by
            rcases hI.bld with ⟨_, v, q, _⟩ | ⟨_, v, q, _⟩
            · exact ⟨_, q, rfl⟩
            · exact ⟨_, q, rfl⟩
          rw [h] at q
          cases q.1
          rw [ho] at q; cases q.2
        · subst e; cases ho
      · rintro k (hk | rfl)
        · exact (hbel.block k (by omega)).trans (hb3.block k (by omega))
        · rw [hI.box2]
          exact hoth _ _ h3.box2 (by intro e; have := Option.some.inj e; omega) (fun c fz e => by cases e)
      · have e := hB
        rw [show Lib.byteCells ((pre ++ [x]).map fun x => piece a x.1).flatten = Lib.byteCells (pre.map fun x => piece a x.1).flatten ++ Lib.strCells ⟨(piece a x.1).toArray⟩ by simp [Lib.byteCells, Lib.strCells]]
        exact e
      · exact (hbel.block _ (by omega)).trans h3.box
      · exact hoth _ _ h3.box2 (by intro e; have := Option.some.inj e; omega) (fun c fz e => by cases e)
      · exact h3.below.trans (hbel.mono (by omega))
    gi_wp2
    · rename_i hlt
      have hlt' : x.1 < a.length - 1 := by omega
      have e4 : (4 - ((Lib.decDigits (lv x).toNat).length : Int)) = ((4 - (Lib.decDigits (lv x).toNat).length : Nat) : Int) := by omega
      rw [e4]
      refine ⟨trivial, (CallsIn.inRound l (callsIn_wide.2 (Any.strings_Repeat Tryz.lays105 Tryz.Builder_Extra_105 ⟨#[48]⟩ (4 - (Lib.decDigits (lv x).toNat).length) W2 (by omega) (by show 1 * _ ≤ _; omega)))).mono ?_⟩
      rintro e W3 ⟨he, hb3⟩
      rw [repL_eq] at he
      subst he
      have hI3 := hI2.grown hb3
      have hb13 : Below W.heap.size W W3 := hb2.trans (hb3.mono hb2.size)
      have eb : (⟨(List.replicate (4 - (Lib.decDigits (lv x).toNat).length) 48).toArray⟩ : ByteArray) ++ ⟨(Lib.decDigits (lv x).toNat).toArray⟩ = ⟨(pad4 (lv x)).toArray⟩ := by
        apply ByteArray.ext
        rw [ByteArray.data_append]
        simp [pad4]
      gi_wp2
      refine ⟨trivial, (CallsIn.inRound l (callsIn_wide.2 (post W3 (pad4 (lv x)) (by rw [hpc, if_pos hlt']) hI3 hb13))).mono ?_⟩
      rintro e W4 ⟨⟨v, rfl⟩, h1, h2, h3⟩
      gi_wp2
      exact ⟨h1, h2, h3⟩
    · rename_i hlt
      have hlt' : ¬ x.1 < a.length - 1 := by omega
      refine ⟨trivial, (CallsIn.inRound l (callsIn_wide.2 (post W2 (Lib.decDigits (lv x).toNat) (by rw [hpc, if_neg hlt']) hI2 hb2))).mono ?_⟩
      rintro e W4 ⟨⟨v, rfl⟩, h1, h2, h3⟩
      gi_wp2
      exact ⟨h1, h2, h3⟩
  case done =>
    rintro D xs W hD rfl hI hK
    rw [pieces_all hne] at hI
    gi_wp2
    refine ⟨trivial, (callsIn_wide.2 (Any.Builder_String_any_k Tryz.lays169 Tryz.Builder_Extra_169 (w.heap.size + 1) (w.heap.size + 1) (textR a.reverse) W hI.bld (by have := hI.size; omega))).mono ?_⟩
    rintro e W2 ⟨rfl, _, hb2, hoth⟩
    have hK2 : W2.heap[D]? = some (.deferred (some [])) := hoth D _ hK (by intro e; have := Option.some.inj e; omega) (fun c fz e => by cases e)
    gi_wp2
    refine ⟨by simp, .inl ⟨_, _, rfl, run_takeDeferred hK2, ?_⟩⟩
    exact ⟨_, results_tmp rfl _ _ _, by rw [natTB, if_neg hne]; rfl, (hI.below.trans (hb2.mono (show w.heap.size ≤ w.heap.size + 1 by omega))).trans (belowK_b (n₀ := w.heap.size) (w := w) (Nat.le_refl _) W2 D _ (.deferred none) (by omega) hK2 rfl rfl)⟩
  case stop =>
    rintro D c pre W _ _ h _
    exact h.elim
end Go.PL
