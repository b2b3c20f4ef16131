/- A plain machine, sound for the given model, and contracts of functions over it, part 15: PlRead PlLibX PlDec PlNum PlFast PlFine. Nothing is assumed. -/
import Derived.Test.YtedbifiejciocaeGreatDoorPlSet
import Derived.SizedLaws
import Derived.Carry
import Derived.OpenShut
import Derived.ChangeOld
import Derived.ShutString
import Derived.WalkKit
import Derived.ProofKit
import Derived.Sort.Grow
import Derived.Deep.Draws
import Derived.Lib.Atoi
set_option linter.unusedSimpArgs false
set_option linter.unusedVariables false
set_option linter.unusedSectionVars false
/- PlRead -/
/- Memory as the statements read it, as data of the plain machine. -/
namespace Go.PL
open Go

/-- All that was there when the call began. -/
def PrW (w : World) : Pro := fun b _ => b < w.heap.size

theorem memW (w : World) (p : Place) : Mem w (PrW w) p [] := ⟨fun _ _ h => h, fun o ob h => by simp at h, fun o o' a b h => by simp at h, fun o ob h => by simp at h⟩

/-- Cells as data. -/
structure CR (w : World) (cs : List Value) (ds : List D) : Prop where
  len : ds.length = cs.length
  rel : ∀ i (h : i < ds.length) (h' : i < cs.length), RelD w (PrW w) ds[i] cs[i]

theorem CR.nil {w : World} : CR w [] [] := ⟨rfl, fun i h => by simp at h⟩
theorem CR.one {w : World} {v : Value} {d : D} (h : RelD w (PrW w) d v) : CR w [v] [d] := ⟨rfl, fun i h1 h2 => by
  obtain rfl : i = 0 := by simpa using h1
  exact h⟩
theorem CR.app {w : World} {a b : List Value} {x y : List D} (h : CR w a x) (k : CR w b y) : CR w (a ++ b) (x ++ y) := by
  refine ⟨by simp [h.len, k.len], fun i h1 h2 => ?_⟩
  by_cases hi : i < x.length
  · rw [List.getElem_append_left hi, List.getElem_append_left (by rw [← h.len]; exact hi)]
    exact h.rel i hi _
  · rw [List.getElem_append_right (by omega), List.getElem_append_right (by rw [← h.len]; omega)]
    have := h.len
    have e : ∀ n m (q : n = m) (hn : n < y.length) (hm : m < b.length), RelD w (PrW w) y[n] b[m] := by
      intro n m q hn hm; subst q; exact k.rel n hn hm
    exact e _ _ (by rw [this]) _ _

section
variable {H : Type} {enc : TypeId × Value → H} {P : Program} {w : World}

/-- What a type's cells are read to. -/
def Rd (enc : TypeId × Value → H) (P : Program) (w : World) (t : TypeId) {α : Type} (e : α → List D) (Q : α → Prop) : Prop :=
  ∀ fuel cs (x : DataW H × List MemPlace), DataW.trod enc P w 0 (fun _ => true) true fuel t cs = some x → (∀ k ∈ x.1.weights P t, k ≤ reachBytes) → ∃ a, Q a ∧ CR w cs (e a)

theorem Rd.map {t : TypeId} {α β : Type} {e : α → List D} {e' : β → List D} {Q : α → Prop} {Q' : β → Prop} (h : Rd enc P w t e Q) (g : α → β) (he : ∀ a, e' (g a) = e a) (hq : ∀ a, Q a → Q' (g a)) : Rd enc P w t e' Q' := by
  intro fuel cs x h1 h2
  obtain ⟨a, k1, k2⟩ := h fuel cs x h1 h2
  exact ⟨g a, hq a k1, by rw [he]; exact k2⟩

theorem Rd.int {t : TypeId} (ht : P.underlying t = some (.int .i64)) : Rd enc P w t (fun n : Int => [.i n]) (fun n => -9223372036854775808 ≤ n ∧ n ≤ 9223372036854775807) := by
  intro fuel cs x h _
  obtain ⟨n, rfl, _, hw⟩ := DataW.trod_int ht h
  refine ⟨n, ?_, .one (.val _)⟩
  simp only [Lit.wf, Bool.and_eq_true, decide_eq_true_eq] at hw
  exact hw

theorem Rd.bool {t : TypeId} (ht : P.underlying t = some .bool) : Rd enc P w t (fun b : Bool => [.b b]) (fun _ => True) := by
  intro fuel cs x h _
  obtain ⟨b, rfl, _⟩ := DataW.trod_bool ht h
  exact ⟨b, trivial, .one (.val _)⟩

theorem Rd.str {t : TypeId} (ht : P.underlying t = some .string) : Rd enc P w t (fun s : ByteArray => [.s s]) (fun s => s.size ≤ reachBytes) := by
  intro fuel cs x h hw
  obtain ⟨s, rfl, rfl, _⟩ := DataW.trod_string ht h
  refine ⟨s, ?_, .one (.val _)⟩
  have := hw _ (by simp [DataW.weights]; rfl)
  exact this

theorem list_of {α : Type} {R : Nat → α → Prop} : ∀ n, (∀ i, i < n → ∃ a, R i a) → ∃ l : List α, l.length = n ∧ ∀ i (h : i < l.length), R i l[i]
  | 0, _ => ⟨[], rfl, fun i h => by simp at h⟩
  | n + 1, h => by
    obtain ⟨l, h1, h2⟩ := list_of n fun i hi => h i (by omega)
    obtain ⟨a, ha⟩ := h n (by omega)
    refine ⟨l ++ [a], by simp [h1], fun i hi => ?_⟩
    by_cases hil : i < l.length
    · rw [List.getElem_append_left hil]; exact h2 i hil
    · obtain rfl : i = n := by simp at hi; omega
      rw [List.getElem_append_right (by omega)]
      simpa using ha

theorem weights_mem {te : TypeId} {k : Nat} : ∀ {l : List (DataW H)} {d : DataW H}, d ∈ l → k ∈ d.weights P te → k ∈ DataW.weightsAll P te l
  | y :: r, d, h, hk => by
    simp only [DataW.weightsAll, List.mem_append]
    rcases List.mem_cons.1 h with rfl | h
    · exact .inl hk
    · exact .inr (weights_mem h hk)

theorem Rd.slice {t te : TypeId} {sz by_ : Nat} {α : Type} {e : α → List D} {Q : α → Prop} (mk : α → D) (ht : P.underlying t = some (.slice te)) (hn : P.cellsOf te = sz) (hb : P.bytesOf te = by_) (h0 : 0 < sz)
    (hmk : ∀ a, (mk a).cells = e a) (hsz : ∀ a, (e a).length = sz) (h : Rd enc P w te e Q) : Rd enc P w t (fun l : List α => [.sl (l.map mk)]) (fun l => l.length * by_ ≤ reachBytes ∧ ∀ x ∈ l, Q x) := by
  intro fuel cs x hx hw
  rcases DataW.trod_slice ht hx with ⟨rfl, rfl⟩ | ⟨a, len, cap, elems, rest, n, rfl, rfl, rfl, _, hlc, hcm, hel, hget, _, _⟩
  · exact ⟨[], ⟨by simp [reachBytes], fun x hx => by simp at hx⟩, .one (.nil none 0)⟩
  · simp only [DataW.weights, ht, List.length_map] at hw
    have hlen : len * by_ ≤ reachBytes := by
      have := hw _ (List.mem_cons_self ..)
      rw [hb, hel] at this
      exact Nat.le_trans (Nat.mul_le_mul_right _ (Nat.le_add_right _ _)) this
    have elem : ∀ i, i < len → ∃ z, (Q z ∧ ∃ cs', (∀ j, j < sz → w.cell? ((a.add (i * sz)).add j) = cs'[j]?) ∧ CR w cs' (e z)) := by
      intro i hi
      have hi' : i < elems.length := by omega
      have h1 := hget i hi
      rw [List.getElem?_eq_getElem hi', hn] at h1
      cases hc : w.cells? 0 (a.add (i * sz)) sz with
      | none => rw [hc] at h1; cases h1
      | some cs' =>
        rw [hc] at h1
        simp only [Option.bind_some] at h1
        obtain ⟨_, _, k3⟩ := World.cells?_some hc
        obtain ⟨z, z1, z2⟩ := h n cs' elems[i] h1 fun k hk => hw k (List.mem_cons_of_mem _ (List.mem_append_left _ (weights_mem (List.mem_map.2 ⟨elems[i], List.getElem_mem hi', rfl⟩) hk)))
        exact ⟨z, z1, cs', k3, z2⟩
    obtain ⟨l, hl, hall⟩ := list_of len elem
    refine ⟨l, ⟨by rw [hl]; exact hlen, fun x hx => ?_⟩, .one ?_⟩
    · obtain ⟨i, hi, rfl⟩ := List.getElem_of_mem hx
      exact (hall i hi).1
    · rcases Nat.eq_zero_or_pos len with hz | hz
      · subst hz
        have : l = [] := List.eq_nil_of_length_eq_zero hl
        subst this
        exact .nil (some a) cap
      · obtain ⟨b, off, spot⟩ := a
        have cell : ∀ i (hi : i < l.length) j, j < sz → ∃ v, ∃ hj : j < (e l[i]).length, cellAt w b (off + i * sz + j) = some v ∧ RelD w (PrW w) (e l[i])[j] v ∧ (i = 0 → j = 0 → spot = none) := by
          intro i hi j hj
          obtain ⟨_, cs', k1, k2⟩ := hall i hi
          have hj2 : j < (e l[i]).length := by rw [hsz]; exact hj
          have hj3 : j < cs'.length := by rw [← k2.len]; exact hj2
          have k3 := k1 j hj
          rw [List.getElem?_eq_getElem hj3] at k3
          refine ⟨cs'[j], hj2, ?_, k2.rel j hj2 hj3, ?_⟩
          · have e1 : ∀ m k, w.cell? ((Addr.add ⟨b, off, spot⟩ m).add k) = some cs'[j] → w.cell? ⟨b, off + m + k, none⟩ = some cs'[j] := by
              intro m k hc
              unfold Addr.add at hc
              by_cases hk : k = 0
              · subst hk
                rw [if_pos rfl] at hc
                by_cases hm : m = 0
                · subst hm
                  rw [if_pos rfl] at hc
                  unfold World.cell? at hc ⊢
                  simp only [Nat.add_zero] at hc ⊢
                  split at hc
                  · split at hc
                    · cases hc
                    · simpa using hc
                  · cases hc
                · rw [if_neg hm] at hc; exact hc
              · rw [if_neg hk] at hc
                by_cases hm : m = 0
                · subst hm
                  rw [if_pos rfl] at hc; exact hc
                · rw [if_neg hm] at hc; exact hc
            exact e1 _ _ k3
          · rintro rfl rfl
            simp only [Nat.zero_mul, Addr.add, if_true] at k3
            unfold World.cell? at k3
            split at k3
            · split at k3
              · cases k3
              · rename_i hs; cases spot with
                | none => rfl
                | some _ => simp at hs
            · cases k3
        obtain ⟨_, _, _, _, hsp⟩ := cell 0 (by omega) 0 h0
        obtain rfl := hsp rfl rfl
        rw [← hl, ← List.length_map (f := mk)]
        refine .sl (l.map mk) b off cap sz (fun i j => (cellAt w b (off + i * sz + j)).getD (.int .i64 0)) (by rw [List.length_map]; omega) (fun i hi => by rw [List.getElem_map, hmk, hsz]) (fun i j hi hj => ?_) (fun i j hi hj => ?_) fun i hi j hj => ?_
        · obtain ⟨v, _, hc, _⟩ := cell i (by simpa using hi) j hj
          unfold cellAt World.cell? at hc
          split at hc
          · rename_i hb'; exact (Array.getElem?_eq_some_iff.1 hb').1
          · cases hc
        · obtain ⟨v, _, hc, _⟩ := cell i (by simpa using hi) j hj
          rw [hc]; rfl
        · have hi' : i < l.length := by simpa using hi
          have hj' : j < sz := by rw [List.getElem_map, hmk, hsz] at hj; exact hj
          obtain ⟨v, hj2, hc, hr, _⟩ := cell i hi' j hj'
          rw [hc]
          simp only [Option.getD_some]
          have e2 : ∀ (ds : List D) (hq : ds = e l[i]) (hds : j < ds.length), RelD w (PrW w) ds[j] v := by
            rintro _ rfl hds; exact hr
          exact e2 _ (by rw [List.getElem_map, hmk]) hj

/-- A struct's fields, from a place on. -/
def RdF (enc : TypeId × Value → H) (P : Program) (w : World) (off : Nat) (fs : List Field) (tot : Nat) {α : Type} (e : α → List D) (Q : α → Prop) : Prop :=
  ∀ (fuel : Nat) (cs : List Value) (xs : List (DataW H × List MemPlace)), xs.length = fs.length → (∀ (i : Nat) (f : Field), fs[i]? = some f → DataW.trod enc P w 0 (fun _ => true) true fuel f.type ((cs.drop f.offset).take (P.cellsOf f.type)) = xs[i]?) →
    (∀ k ∈ DataW.weightsEach P (fs.map (·.type)) (xs.map (·.1)), k ≤ reachBytes) → ∃ a, Q a ∧ CR w ((cs.drop off).take tot) (e a)

theorem RdF.nil {off : Nat} : RdF enc P w off [] 0 (fun _ : Unit => []) (fun _ => True) := fun _ _ _ _ _ _ => ⟨(), trivial, by rw [List.take_zero]; exact .nil⟩

theorem RdF.cons {off n tot : Nat} {f : Field} {r : List Field} {α β : Type} {e : α → List D} {e' : β → List D} {Q : α → Prop} {Q' : β → Prop} (hoff : f.offset = off) (hn : P.cellsOf f.type = n) (h : Rd enc P w f.type e Q) (k : RdF enc P w (off + n) r tot e' Q') :
    RdF enc P w off (f :: r) (n + tot) (fun x : α × β => e x.1 ++ e' x.2) (fun x => Q x.1 ∧ Q' x.2) := by
  intro fuel cs xs hl hget hw
  cases xs with
  | nil => simp at hl
  | cons x xs =>
    have h0 := hget 0 f rfl
    simp only [List.getElem?_cons_zero] at h0
    simp only [List.map_cons, DataW.weightsEach, List.mem_append] at hw
    obtain ⟨a, ha1, ha2⟩ := h fuel _ x h0 fun k hk => hw k (.inl hk)
    obtain ⟨b, hb1, hb2⟩ := k fuel cs xs (by simpa using hl) (fun i g hg => by have := hget (i + 1) g (by simpa using hg); simpa using this) fun k hk => hw k (.inr hk)
    refine ⟨(a, b), ⟨ha1, hb1⟩, ?_⟩
    rw [List.take_add, List.drop_drop]
    rw [hoff, hn] at ha2
    exact ha2.app hb2

theorem Rd.struct {t : TypeId} {fs : Array Field} {tot : Nat} {α : Type} {e : α → List D} {Q : α → Prop} (ht : P.underlying t = some (.struct fs)) (hc : P.cellsOf t = tot) (h : RdF enc P w 0 fs.toList tot e Q) : Rd enc P w t e Q := by
  intro fuel cs x hx hw
  obtain ⟨xs, n, rfl, rfl, hl, hxl, hget⟩ := DataW.trod_struct ht hx
  simp only [DataW.weights, ht] at hw
  obtain ⟨a, h1, h2⟩ := h n cs xs (by simpa using hxl) (fun i f hf => hget i f (by simpa using hf)) hw
  refine ⟨a, h1, ?_⟩
  rw [List.drop_zero, List.take_of_length_le (by omega)] at h2
  exact h2

/-- An argument that is a struct. -/
theorem Rd.argS {t : TypeId} {fs : Array Field} {α : Type} {e : α → List D} {Q : α → Prop} {base : Nat} {v : Value} {d : DataW H} {ps : List MemPlace} (h : Rd enc P w t e Q) (ht : P.underlying t = some (.struct fs)) (hv : Value.okWide P w .any base t v)
    (hx : DataW.Trod enc P w 0 (fun _ => true) true t v d ps) (hw : ∀ k ∈ d.weights P t, k ≤ reachBytes) : ∃ a, Q a ∧ RelD w (PrW w) (.agg (e a)) v := by
  unfold Value.okWide at hv
  rw [ht] at hv
  obtain ⟨cs, rfl, _, _⟩ := hv
  obtain ⟨fuel, hx⟩ := hx
  obtain ⟨a, h1, h2⟩ := h fuel _ _ hx hw
  refine ⟨a, h1, .agg (e a) cs ?_ fun i hi => ?_⟩
  · have := h2.len; rw [Array.length_toList] at this; exact this.symm
  · have h3 := h2.rel i hi (by rw [← h2.len]; exact hi)
    have e1 : ∀ (u u' : Value), u = u' → RelD w (PrW w) (e a)[i] u → RelD w (PrW w) (e a)[i] u' := fun _ _ q r => q ▸ r
    exact e1 _ _ (Array.getElem_toList ..) h3

theorem Below.of_inv {w w' : World} {Pr Pr' : Pro} {p p' : Place} {os' : List Ob} (h : Inv ⟨w, Pr, p, []⟩ w' Pr' p' os') : RowKit.Below w.heap.size w w' :=
  ⟨h.frm.os, h.frm.tape, h.frm.output, h.frm.size, fun k hk => h.frm.block k hk fun ⟨o, ob, h1, _⟩ => by simp at h1⟩
end
end Go.PL

/- PlLibX -/
/- What a function of the library, whose contract speaks of the machine, comes to in the plain machine. -/
namespace Go.PL
open Go

theorem Inv.grown {w w' : World} {Pr : Pro} {p : Place} (hM : Mem w Pr p []) (h : RowKit.Below w.heap.size w w') : Inv ⟨w, Pr, p, []⟩ w' Pr p [] := by
  refine ⟨⟨fun b i hb => Nat.lt_of_lt_of_le (hM.prIn b i hb) h.size, fun o ob h1 => by simp at h1, fun o o' a b h1 => by simp at h1, fun o ob h1 => by simp at h1⟩,
    ⟨h.os, h.tape, h.output, h.size, fun k hk _ => h.block k hk⟩, ⟨fun _ _ h => h, fun b i v hb hc => ?_⟩, fun b i hb => .inl hb, .refl _ _, fun o ob h1 => by simp at h1⟩
  have := hM.prIn b i hb
  unfold cellAt at hc ⊢
  rw [h.cell (p := ⟨b, i, none⟩) this]
  exact hc

theorem Below.growN {w : World} {k : Nat} {os : Array Obj} : RowKit.Below w.heap.size w (Sort.grow (w.drewN k) os) := by
  refine ⟨rfl, rfl, rfl, by simp [Sort.grow], fun i hi => ?_⟩
  show (w.heap ++ os)[i]? = _
  rw [Array.getElem?_append_left hi]

/-- A function of data, by its contract: it hands back a number, a text, a truth. -/
theorem Says.scal {P : Program} {gl : GL} {f : FuncId} {fn : Func} {ds : List D} {u : Value} (hf : P.funcs[f]? = some fn) (hn : (fn.name == "runtime.NumGoroutine") = false) (hb : fn.body.isNone = false)
    (h : ∀ (w : World) (Pr : Pro) (p : Place) (vals : Array Value), GOk gl w Pr p [] → (hl : vals.size = ds.length) → (∀ i (hi : i < ds.length), RelD w Pr ds[i] (vals[i]'(by omega))) → Calls P f vals w fun e w' => e = .returned u ∧ RowKit.Below w.heap.size w w') :
    Says P gl f (ds.map .d) [] (.d (.val u)) [] := by
  refine ⟨⟨fn, hf, hn, hb⟩, fun w Pr p vals hM hG hl hr => (h w Pr p vals hG (by simpa using hl) fun i hi => ?_).mono fun e w' ⟨h1, h2⟩ => ⟨u, Pr, p, h1, Inv.grown hM h2, .d (.val _)⟩⟩
  have h3 := hr i (by simpa using hi)
  rw [List.getElem_map] at h3
  generalize vals[i]'(by rw [hl]; simpa using hi) = v at h3 ⊢
  cases h3 with
  | d h3 => exact h3
end Go.PL

/- PlDec -/
/- Decimal digits read: what a text of digits stands for, and its limbs of four digits. -/
namespace Go.PL
open Go
def isDg (c : UInt8) : Prop := 48 ≤ c.toNat ∧ c.toNat ≤ 57
instance (c : UInt8) : Decidable (isDg c) := by unfold isDg; infer_instance
/-- What a digit stands for. -/
def dgN (c : UInt8) : Nat := c.toNat - 48
/-- What digits stand for, the last one first. -/
def dvR : List UInt8 → Nat
  | [] => 0
  | c :: r => dgN c + 10 * dvR r
def dv (l : List UInt8) : Nat := dvR l.reverse
theorem dvR_app (l m : List UInt8) : dvR (l ++ m) = dvR l + 10 ^ l.length * dvR m := by
  induction l with
  | nil => rw [List.nil_append, List.length_nil, Nat.pow_zero, Nat.one_mul]; exact (Nat.zero_add _).symm
  | cons c r ih =>
    rw [List.cons_append, List.length_cons, Nat.pow_succ]
    show dgN c + 10 * dvR (r ++ m) = dgN c + 10 * dvR r + 10 ^ r.length * 10 * dvR m
    rw [ih, Nat.mul_add, Nat.add_assoc, Nat.mul_comm (10 ^ r.length) 10, Nat.mul_assoc]
theorem dv_app (l m : List UInt8) : dv (l ++ m) = dv l * 10 ^ m.length + dv m := by
  unfold dv
  rw [List.reverse_append, dvR_app, List.length_reverse, Nat.mul_comm, Nat.add_comm]
theorem dv_one (c : UInt8) : dv [c] = c.toNat - 48 := by
  show dgN c + 10 * 0 = _
  rw [Nat.mul_zero]; rfl
theorem dv_snoc (l : List UInt8) (c : UInt8) : dv (l ++ [c]) = dv l * 10 + (c.toNat - 48) := by
  rw [dv_app, dv_one]; rfl
theorem dv_nil : dv [] = 0 := rfl
theorem snocRec {motive : List UInt8 → Prop} (h0 : motive []) (h1 : ∀ l c, motive l → motive (l ++ [c])) : ∀ l, motive l := by
  intro l
  have key : ∀ r : List UInt8, motive r.reverse := by
    intro r
    induction r with
    | nil => exact h0
    | cons c r ih => rw [List.reverse_cons]; exact h1 _ _ ih
  have := key l.reverse
  rwa [List.reverse_reverse] at this
theorem dv_lt {l : List UInt8} (h : ∀ c ∈ l, isDg c) : dv l < 10 ^ l.length := by
  induction l using snocRec with
  | h0 => exact Nat.one_pos
  | h1 l c ih =>
    have h1 := ih fun x hx => h x (by simp [hx])
    have h2 := h c (by simp)
    unfold isDg at h2
    rw [dv_snoc, List.length_append, List.length_singleton, Nat.pow_succ]
    generalize 10 ^ l.length = p at *
    omega
theorem ofNat_toNat {n : Nat} (h : n < 256) : (UInt8.ofNat n).toNat = n := by simp [UInt8.toNat_ofNat']; omega
theorem dec_dig (n : Nat) : ∀ c ∈ Lib.decDigits n, isDg c := by
  induction n using Nat.strongRecOn with
  | _ n ih =>
    by_cases h : n < 10
    · rw [dec_small h]
      intro c hc
      rw [List.mem_singleton] at hc
      subst hc
      unfold isDg
      rw [ofNat_toNat (by omega)]; omega
    · rw [dec_step (by omega)]
      intro c hc
      rw [List.mem_append, List.mem_singleton] at hc
      rcases hc with hc | rfl
      · exact ih (n / 10) (by omega) c hc
      · unfold isDg
        rw [ofNat_toNat (by omega)]; omega
theorem dv_dec (n : Nat) : dv (Lib.decDigits n) = n := by
  induction n using Nat.strongRecOn with
  | _ n ih =>
    by_cases h : n < 10
    · rw [dec_small h, dv_one, ofNat_toNat (by omega)]; omega
    · rw [dec_step (by omega), dv_snoc, ih (n / 10) (by omega), ofNat_toNat (by omega)]; omega
theorem dec_inj {m n : Nat} (h : Lib.decDigits m = Lib.decDigits n) : m = n := by
  rw [← dv_dec m, h, dv_dec]
theorem dec_ne (n : Nat) : Lib.decDigits n ≠ [] := by
  by_cases h : n < 10
  · rw [dec_small h]; simp
  · rw [dec_step (by omega)]; simp
/-- Digits as a number's text has them: no nought ahead of another. -/
def okDg (l : List UInt8) : Prop := l ≠ [] ∧ (∀ c ∈ l, isDg c) ∧ (l.length = 1 ∨ l.getD 0 0 ≠ 48)
theorem dec_ok (n : Nat) : okDg (Lib.decDigits n) := by
  refine ⟨dec_ne n, dec_dig n, ?_⟩
  induction n using Nat.strongRecOn with
  | _ n ih =>
    by_cases h : n < 10
    · rw [dec_small h]; simp
    · have h1 := ih (n / 10) (by omega)
      have h2 := dec_ne (n / 10)
      have h4 := dv_dec (n / 10)
      have h5 := dec_dig (n / 10)
      rw [dec_step (by omega)]
      right
      cases hd : Lib.decDigits (n / 10) with
      | nil => exact absurd hd h2
      | cons c r =>
        rw [hd] at h1 h4 h5
        simp only [List.cons_append, List.getD_cons_zero]
        rcases h1 with h1 | h1
        · have : r = [] := List.eq_nil_of_length_eq_zero (by simpa using h1)
          subst this
          rw [dv_one] at h4
          rintro rfl
          have : (48 : UInt8).toNat = 48 := rfl
          omega
        · simpa using h1
theorem dec_of {l : List UInt8} (h : okDg l) : Lib.decDigits (dv l) = l := by
  obtain ⟨h1, h2, h3⟩ := h
  induction l using snocRec with
  | h0 => exact absurd rfl h1
  | h1 l c ih =>
    have hc := h2 c (by simp)
    unfold isDg at hc
    have hu : UInt8.ofNat (48 + (c.toNat - 48)) = c := by
      rw [show 48 + (c.toNat - 48) = c.toNat by omega]; simp
    by_cases hl : l = []
    · subst hl
      rw [List.nil_append, dv_one, dec_small (by omega), hu]
    · have h0 : l.getD 0 0 ≠ 48 := by
        rcases h3 with h3 | h3
        · exfalso
          have : 0 < l.length := List.length_pos_iff.2 hl
          rw [List.length_append, List.length_singleton] at h3; omega
        · cases l with
          | nil => exact absurd rfl hl
          | cons x r => simpa using h3
      have hd : ∀ c ∈ l, isDg c := fun x hx => h2 x (by simp [hx])
      have ihl := ih hl hd (.inr h0)
      have hpos : 1 ≤ dv l := by
        rcases Nat.eq_zero_or_pos (dv l) with e | e
        · exfalso
          rw [e, dec_small (by omega)] at ihl
          rw [← ihl] at h0
          exact h0 rfl
        · exact e
      rw [dv_snoc, dec_step (by omega), show (dv l * 10 + (c.toNat - 48)) / 10 = dv l by omega, show (dv l * 10 + (c.toNat - 48)) % 10 = c.toNat - 48 by omega, ihl, hu]
/-- Four digits more. -/
theorem dec_four {n : Nat} (h : 10000 ≤ n) : Lib.decDigits n = Lib.decDigits (n / 10000) ++ pad4 ((n % 10000 : Nat) : Int) := by
  rw [pad4_eq (by omega), dec_step (n := n) (by omega), dec_step (n := n / 10) (by omega), dec_step (n := n / 10 / 10) (by omega), dec_step (n := n / 10 / 10 / 10) (by omega)]
  simp only [List.append_assoc, List.cons_append, List.nil_append]
  rw [show n / 10 / 10 / 10 / 10 = n / 10000 by omega, show n / 10 / 10 / 10 % 10 = n % 10000 / 1000 by omega, show n / 10 / 10 % 10 = n % 10000 / 100 % 10 by omega, show n / 10 % 10 = n % 10000 / 10 % 10 by omega, show n % 10 = n % 10000 % 10 by omega]
/-- Digits of limbs are the number's. -/
theorem textR_digs (m : Nat) (h : 0 < m) : textR (digs m).reverse = Lib.decDigits m := by
  induction m using Nat.strongRecOn with
  | _ m ih =>
    rw [digs_pos h, List.reverse_cons]
    by_cases h1 : m / 10000 = 0
    · rw [h1, digs_zero, List.reverse_nil, List.nil_append, textR_one]
      congr 1; omega
    · rw [textR_snoc _ (by simpa [digs_nil] using h1), ih (m / 10000) (by omega) (by omega), ← dec_four (by omega)]
theorem natTB_digs (m : Nat) : natTB (digs m) = ⟨(Lib.decDigits m).toArray⟩ := by
  by_cases h : m = 0
  · subst h
    rw [digs_zero, dec_small (by omega)]; rfl
  · rw [natTB, if_neg (by simpa [digs_nil] using h), textR_digs m (by omega)]
end Go.PL

/- PlNum -/
namespace Go.PL
open Go
/-- A function of the library that gives two values, neither of memory. -/
theorem Says.scal2 {P : Program} {gl : GL} {f : FuncId} {fn : Func} {ds : List D} {u v : Value} (hf : P.funcs[f]? = some fn) (hn : (fn.name == "runtime.NumGoroutine") = false) (hb : fn.body.isNone = false)
    (h : ∀ (w : World) (Pr : Pro) (p : Place) (vals : Array Value), GOk gl w Pr p [] → (hl : vals.size = ds.length) → (∀ i (hi : i < ds.length), RelD w Pr ds[i] (vals[i]'(by omega))) → Calls P f vals w fun e w' => e = .returned (.tuple #[u, v]) ∧ RowKit.Below w.heap.size w w') :
    Says P gl f (ds.map .d) [] (.tup [.d (.val u), .d (.val v)]) [] := by
  refine ⟨⟨fn, hf, hn, hb⟩, fun w Pr p vals hM hG hl hr => (h w Pr p vals hG (by simpa using hl) fun i hi => ?_).mono fun e w' ⟨h1, h2⟩ => ⟨_, Pr, p, h1, Inv.grown hM h2, .tup rfl fun i hi => ?_⟩⟩
  · have h3 := hr i (by simpa using hi)
    rw [List.getElem_map] at h3
    generalize vals[i]'(by rw [hl]; simpa using hi) = v at h3 ⊢
    cases h3 with
    | d h3 => exact h3
  · rcases (show i = 0 ∨ i = 1 by simp at hi; omega) with rfl | rfl
    · exact .d (.val _)
    · exact .d (.val _)
/-- A function of the library that gives some values, none of memory. -/
theorem Says.scalN {P : Program} {gl : GL} {f : FuncId} {fn : Func} {ds : List D} {us : List Value} (hf : P.funcs[f]? = some fn) (hn : (fn.name == "runtime.NumGoroutine") = false) (hb : fn.body.isNone = false)
    (h : ∀ (w : World) (Pr : Pro) (p : Place) (vals : Array Value), GOk gl w Pr p [] → (hl : vals.size = ds.length) → (∀ i (hi : i < ds.length), RelD w Pr ds[i] (vals[i]'(by omega))) → Calls P f vals w fun e w' => e = .returned (.tuple us.toArray) ∧ RowKit.Below w.heap.size w w') :
    Says P gl f (ds.map .d) [] (.tup (us.map fun u => .d (.val u))) [] := by
  refine ⟨⟨fn, hf, hn, hb⟩, fun w Pr p vals hM hG hl hr => (h w Pr p vals hG (by simpa using hl) fun i hi => ?_).mono fun e w' ⟨h1, h2⟩ => ⟨_, Pr, p, h1, Inv.grown hM h2, .tup (by simp) fun i hi => ?_⟩⟩
  · have h3 := hr i (by simpa using hi)
    rw [List.getElem_map] at h3
    generalize vals[i]'(by rw [hl]; simpa using hi) = v at h3 ⊢
    cases h3 with
    | d h3 => exact h3
  · simp only [List.getElem_map, List.getElem_toArray]
    exact .d (.val _)
theorem digitVal_of {c : UInt8} (h : isDg c) : Lib.digitVal c = some (c.toNat - 48) := by unfold Lib.digitVal; exact if_pos h
theorem decFrom_of : ∀ (l : List UInt8) (acc : Nat), (∀ c ∈ l, isDg c) → Lib.decFrom acc l = some (acc * 10 ^ l.length + dv l)
  | [], acc, _ => by simp [Lib.decFrom, dv_nil]
  | c :: r, acc, h => by
    have e : Lib.decFrom acc (c :: r) = Lib.decFrom (acc * 10 + (c.toNat - 48)) r := by
      show (match Lib.digitVal c with | some d => Lib.decFrom (acc * 10 + d) r | none => none) = _
      rw [digitVal_of (h c (by simp))]
    rw [e, decFrom_of r _ fun x hx => h x (by simp [hx])]
    have := dv_app [c] r
    rw [dv_one] at this
    rw [show c :: r = [c] ++ r from rfl, this, List.length_append, List.length_singleton, Nat.add_comm 1, Nat.pow_succ]
    congr 1
    grind
theorem atoi_of {l : List UInt8} (h : ∀ c ∈ l, isDg c) (h1 : 1 ≤ l.length) : Lib.atoi l = some (dv l : Int) := by
  cases l with
  | nil => simp at h1
  | cons c r =>
    have hc := h c (by simp)
    have n1 : (c == 45) = false := by rw [beq_eq_false_iff_ne]; rintro rfl; unfold isDg at hc; simp at hc
    have n2 : (c == 43) = false := by rw [beq_eq_false_iff_ne]; rintro rfl; unfold isDg at hc; simp at hc
    unfold Lib.atoi
    simp only [n1, n2]
    show (Lib.decNat (c :: r)).map (fun m : Nat => (m : Int)) = _
    unfold Lib.decNat
    rw [if_neg (by simp), decFrom_of _ _ h]
    simp
end Go.PL

/- PlFast -/
namespace Go.PL
open Go
/-- The operations that an operation waits for at once. -/
def deps (all : Array Oper) (j : Nat) : List Nat := ((all[j]?).map fun o => o.after.toList.filterMap fun e => if Region.binds .any e then some e.on else none).getD []
/-- A table of all that each operation waits for. -/
def tabOk (all : Array Oper) (T : List (List Nat)) : Bool := (List.range all.size).all fun j =>
  (deps all j).all (fun d => decide (d < j)) && (T.getD j []).all (fun i => (deps all j).any fun d => i == d || (T.getD d []).contains i) &&
  (deps all j).all (fun d => (T.getD j []).contains d && (T.getD d []).all fun i => (T.getD j []).contains i)
def drawF (all : Array Oper) (T : List (List Nat)) : Bool := tabOk all T && (List.range all.size).all fun j =>
  (T.getD j []).all (fun i => decide (i < j)) && (List.range all.size).all fun i => (match all[i]?, all[j]? with
    | some a, some b => a.dst.toList.all fun t => (!(readTmps all b).contains t || (T.getD j []).contains i) && (i == j || !(b.dst == some t))
    | _, _ => false)
theorem mem_waits {all : Array Oper} {k j i : Nat} : i ∈ waits all (k + 1) j ↔ ∃ d ∈ deps all j, i = d ∨ i ∈ waits all k d := by
  show i ∈ ((all[j]?).map fun o => o.after.toList.flatMap fun e => if Region.binds .any e then e.on :: waits all k e.on else []).getD [] ↔ _
  unfold deps
  cases all[j]? with
  | none => simp
  | some o =>
    simp only [Option.map_some, Option.getD_some, List.mem_flatMap, List.mem_filterMap]
    constructor
    · rintro ⟨e, he, hi⟩
      split at hi
      · rename_i hb
        refine ⟨e.on, ⟨e, he, by rw [if_pos hb]⟩, ?_⟩
        rcases List.mem_cons.1 hi with h | h
        · exact .inl h
        · exact .inr h
      · cases hi
    · rintro ⟨d, ⟨e, he, hd⟩, hi⟩
      split at hd
      · rename_i hb
        obtain rfl := Option.some.inj hd
        exact ⟨e, he, by rw [if_pos hb]; exact List.mem_cons.2 hi⟩
      · cases hd
theorem waits_tab {all : Array Oper} {T : List (List Nat)} (h : tabOk all T = true) : ∀ n j, j < n → j < all.size → ∀ i, i ∈ waits all n j ↔ i ∈ T.getD j []
  | 0, _, hj, _, _ => by omega
  | n + 1, j, hj, hs, i => by
    have hj' := List.all_eq_true.1 h j (List.mem_range.2 hs)
    simp only [Bool.and_eq_true, List.all_eq_true, List.any_eq_true, decide_eq_true_eq, Bool.or_eq_true, beq_iff_eq, List.contains_iff_mem] at hj'
    obtain ⟨⟨h1, h2⟩, h3⟩ := hj'
    rw [mem_waits]
    constructor
    · rintro ⟨d, hd, rfl | hi⟩
      · exact (h3 _ hd).1
      · exact (h3 d hd).2 i ((waits_tab h n d (by have := h1 d hd; omega) (by have := h1 d hd; omega) i).1 hi)
    · intro hi
      obtain ⟨d, hd, rfl | hi2⟩ := h2 i hi
      · exact ⟨_, hd, .inl rfl⟩
      · exact ⟨d, hd, .inr ((waits_tab h n d (by have := h1 d hd; omega) (by have := h1 d hd; omega) i).2 hi2)⟩
theorem drawSOk_of {all : Array Oper} {T : List (List Nat)} (h : drawF all T = true) : drawSOk all [] .done = true := by
  unfold drawF at h
  rw [Bool.and_eq_true] at h
  obtain ⟨ht, h⟩ := h
  unfold drawSOk
  simp only [headsOk, treeSub, List.all_nil, Bool.and_true, List.contains_nil, Bool.false_or, Bool.not_false]
  rw [List.all_eq_true] at h ⊢
  intro j hj
  have hj2 := List.mem_range.1 hj
  have hw := waits_tab ht all.size j hj2 hj2
  have hc : ∀ i, (waits all all.size j).contains i = (T.getD j []).contains i := fun i => by
    rw [Bool.eq_iff_iff, List.contains_iff_mem, List.contains_iff_mem]; exact hw i
  have := h j hj
  rw [Bool.and_eq_true, List.all_eq_true] at this
  obtain ⟨h1, h2⟩ := this
  simp only [Bool.and_eq_true, List.all_eq_true]
  refine ⟨⟨fun i hi => h1 i ((hw i).1 hi), fun _ _ => trivial⟩, ?_⟩
  intro i hi
  have := List.all_eq_true.1 h2 i hi
  simp only [hc]
  exact this
variable {T : Tab} {C : Call} {nF : Nat} {s : St} {Q : Ex → St → Prop}
theorem Wp.drawFR {id : Nat} {l : List Oper} (W : List (List Nat)) (m : List Bool) (hd : (drawF l.toArray W && (qMask [] 0 l == m)) = true) (h : qA T C nF (qSelB m (resL (dsts l) l)) s (fun s' => trR T C nF (resT (resL (dsts l) l) .done) s' (Q .normal))) : Wp T C nF (.region id l.toArray true) s Q := by
  rw [Bool.and_eq_true] at hd
  exact .drawSR [] m .done (by rw [drawSOk_of hd.1, Bool.true_and]; exact hd.2) h
end Go.PL

/- PlFine -/
/- The steps of the walk gathered: each theorem carries its own text. -/
namespace Go.PL
open Go
section
variable {T : Tab} {C : Call} {nF : Nat} {s : St} {Q' : Ex → St → Prop} {K : St → Prop} {R : Prop}
instance {l : List RO} : Sx (qA T C nF l s K) := ⟨⟩
instance {l : List RO} : Sx (lateR T C nF l s R) := ⟨⟩
instance {t : RT} : Sx (trR T C nF t s K) := ⟨⟩
end
/-- What simp does. -/
theorem nx' {P Q : Prop} [Sx P] (h : Q) (e : P = Q := by simp -implicitDefEqProofs (disch := omega) only [go_sem]; exact rfl) : P := e ▸ h
/-- A step that is told by its form. -/
class Sp (P : Prop) (Q : outParam Prop) : Prop where
  h : Q → P
section
variable {T : Tab} {C : Call} {nF : Nat} {s : St} {Q : Ex → St → Prop} {K : St → Prop} {A B : Prop}
instance {id : Nat} {l : List Oper} : Sp (Wp T C nF (.region id l.toArray false) s Q) (opsR T C nF (resL (dsts l) l) s (Q .normal)) := ⟨rR⟩
instance : Sp (Wp T C nF .skip s Q) (Q .normal s) := ⟨Wp.skip⟩
instance : Sp (Wp T C nF .ret s Q) (Q .ret s) := ⟨Wp.ret⟩
instance {n : Nat} : Sp (Wp T C nF (.exit n) s Q) (Q (.exit n) s) := ⟨Wp.exit⟩
instance {l : Nat} : Sp (Wp T C nF (.label l) s Q) (Q .normal s) := ⟨Wp.label⟩
instance : Sp (bcase (.d (.val (.bool true))) A B) A := ⟨bcaseT⟩
instance : Sp (bcase (.d (.val (.bool false))) A B) B := ⟨bcaseF⟩
instance : Sp (gcase (.d (.val (.bool true))) true A B) A := ⟨gcaseTT⟩
instance : Sp (gcase (.d (.val (.bool true))) false A B) B := ⟨gcaseTF⟩
instance : Sp (gcase (.d (.val (.bool false))) true A B) B := ⟨gcaseFT⟩
instance : Sp (gcase (.d (.val (.bool false))) false A B) A := ⟨gcaseFF⟩
instance {w : Bool} : Sp (gcase undefV w A B) B := ⟨gcaseU⟩
end
theorem n0 {P Q : Prop} [i : Sp P Q] (h : Q) : P := i.h h
/-- A step with one goal behind it. -/
theorem n1 {P Q : Prop} (h : Q) (e : Q → P := by
  first
  | exact fun h => wE h | exact fun h => wG h | exact fun h => an h | exact r1_append
  | exact fun h => wGq h | exact nilB_pos (by omega) | exact fun h => wGqA h | exact fun h => wGl h | exact fun h => wGt2 h | fail) : P := e h
/-- A call by a contract that is looked up. -/
theorem nP {P pre Q : Prop} (h : pre) (h2 : Q) (e : pre → Q → P := by
  intro a b
  first
  | ((first | refine wC ?_ | refine wC0 ?_); first | exact pN a rfl b | (refine pcDn ?_; exact pN a rfl b))
  | (refine wCq ?_; first | exact pQ a rfl (.inl rfl) b | exact pQ a rfl (.inr rfl) b | (refine pcDQn ?_; first | exact pQ a rfl (.inl rfl) b | exact pQ a rfl (.inr rfl) b | fail))
  | fail) : P := e h h2
/-- A call by a contract that is named. -/
theorem nPc {C : Call} {n : FuncId} {vs : List V} {r : V} {P Q : Prop} (hc : C n vs [] r []) (h2 : Q) (e : C n vs [] r [] → Q → P := by
  intro a b
  first
  | ((first | refine wC ?_ | refine wC0 ?_); first | exact pNc a rfl b | (refine pcDn ?_; exact pNc a rfl b))
  | (refine wCq ?_; first | exact pQc a rfl (.inl rfl) b | exact pQc a rfl (.inr rfl) b | (refine pcDQn ?_; first | exact pQc a rfl (.inl rfl) b | exact pQc a rfl (.inr rfl) b | fail))
  | fail) : P := e hc h2
/-- What is left to be done behind is named. -/
theorem nS {P : Prop} {A : St → Prop} {B : (St → Prop) → Prop} (h : ∀ K, Imp A K → B K) (e : (∀ K, Imp A K → B K) → P := by first | exact wS | exact wB | fail) : P := e h
/-- A condition that is not known. -/
theorem n2 {P A B c d : Prop} (h1 : c → A) (h2 : d → B) (e : (c → A) → (d → B) → P := by
  first
  | (refine fun a b => bcase_s (fun h => a ?_) (fun h => b ?_) <;> first | (simp only [FX, LX] at h; exact h) | exact h)
  | (refine fun a b => gcase_st (fun h => Eq.mpr ?_ (a ?_)) (fun h => Eq.mpr ?_ (b ?_)) <;> first | (simp only [FX, LX] at h; exact h) | exact h | (simp only [h]; exact rfl) | exact rfl)
  | (refine fun a b => gcase_sf (fun h => Eq.mpr ?_ (a ?_)) (fun h => Eq.mpr ?_ (b ?_)) <;> first | (simp only [FX, LX] at h; exact h) | exact h | (simp only [h]; exact rfl) | exact rfl)
  | fail) : P := e h1 h2
theorem nK {K A : St → Prop} {s : St} {Q : Prop} (hK : Imp A K) (h : Q) (e : A s = Q := by (try simp only [TX, Nat.reduceBEq]); exact rfl) : K s := hK s (e ▸ h)
theorem nl {P : Prop} (e : P := by first | assumption | omega | exact trivial | (simp only [LX]; omega) | fail) : P := e
section
variable {nF : Nat} {env env' : List (Nat × V)} {os os' tl : List Ob}
theorem Weak.lo (h : sub env env' := by (simp -implicitDefEqProofs (disch := omega) only [go_sem, sub_nil, sub_cons, LX]; try ((repeat' refine And.intro ?_ ?_) <;> first | rfl | trivial | (congr 3; omega) | (congr 1; omega)))) : Weak nF ⟨env, os⟩ ⟨env', os⟩ := .env h rfl
theorem Weak.cu (h : sub env env' := by (simp -implicitDefEqProofs (disch := omega) only [go_sem, sub_nil, sub_cons, LX]; try ((repeat' refine And.intro ?_ ?_) <;> first | rfl | trivial | (congr 3; omega) | (congr 1; omega))))
    (ho : os = os' ++ tl := by exact rfl) (hn : nF ≤ os'.length := by simp) (h1 : (env'.all fun p => p.2.bnd os'.length) = true := by exact rfl) (h2 : (os'.all (Ob.bnd os'.length)) = true := by exact rfl) :
    Weak nF ⟨env, os⟩ ⟨env', os'⟩ := .drop tl hn h ho h1 h2
end
end Go.PL
