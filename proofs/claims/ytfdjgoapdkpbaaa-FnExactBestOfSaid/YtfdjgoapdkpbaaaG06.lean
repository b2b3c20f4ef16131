/- A plain machine, sound for the given model, and contracts of functions over it, part 6: PlLoop PlTrim. Nothing is assumed. -/
import Derived.Test.YtfdjgoapdkpbaaaPlSimp
set_option linter.unusedSimpArgs false
set_option linter.unusedVariables false
set_option linter.unusedSectionVars false
/- PlLoop -/
namespace Go.PL
open Go

section
variable {T : Tab} {C : Call} {nF : Nat} {env : List (Nat × V)} {os : List Ob} {K : St → Prop} {dst : Option Tmp} {ty : TypeId} {pos : String} {after : Array Edge} {guard : Option (Nat × Bool)}

/-- A loop: what runs through it, its measure, what holds at its head. -/
theorem Wp.loopA {α : Type} {a : Code} {s : St} {Q : Ex → St → Prop} (S : α → St) (μ : α → Nat) (J : α → Prop) (a0 : α) (hw : Weak nF s (S a0)) (hJ : J a0)
    (round : ∀ x, J x → G T C nF a (S x) (thn (fun s' => ∃ y, μ y < μ x ∧ Weak nF s' (S y) ∧ J y) Q)) : Wp T C nF (.loop a) s Q := by
  refine .loop (fun n s => ∃ x, s = S x ∧ μ x = n ∧ J x) (μ a0) hw ⟨a0, rfl, rfl, hJ⟩ ?_
  rintro n _ ⟨x, rfl, rfl, hx⟩
  refine .mono (.of_G _ _ _ (round x hx)) ?_
  intro e s h
  cases e with
  | normal =>
    obtain ⟨y, h1, h2, h3⟩ := h
    exact ⟨μ y, S y, h1, h2, y, rfl, rfl, h3⟩
  | exit n => exact h
  | ret => exact h

def calleeV (env : List (Nat × V)) (f : Operand) (args : List Operand) : Option (FuncId × List V) :=
  match ev env f with
  | .d (.fn (.func n) a b) => some (n, a.map .d ++ args.map (ev env) ++ b.map .d)
  | .fn (.func n) a b => some (n, a ++ args.map (ev env) ++ b)
  | _ => none

def V.isR : V → Bool
  | .d _ => true
  | .tup vs => vs.all fun | .d _ => true | _ => false
  | _ => false

theorem shift_isR {r : V} {n : Nat} (h : r.isR = true) : r.shift n = r := by
  cases r with
  | tup vs =>
    simp only [V.isR] at h
    simp only [V.shift]
    congr 1
    induction vs with
    | nil => rfl
    | cons v r ih =>
      simp only [List.all_cons, Bool.and_eq_true] at h
      rw [List.map_cons, ih h.2]
      cases v <;> first | rfl | (simp at h; done)
  | d x => rfl
  | _ => simp [V.isR] at h

theorem op1_pure {f : Operand} {args : Array Operand} {ats : Array TypeId} {n : FuncId} {vs : List V} {ds : List D} {l : List Nat} {r : V} (hv : calleeV env f args.toList = some (n, vs)) (hl : mapL (leaf os) vs = some (ds, l))
    (hc : C n (ds.map .d) [] r []) (hr : r.isR = true) (hs : l = []) (h : K (St.put ⟨env, os⟩ dst r)) : op1K T C nF ⟨dst, .call { callee := .value f, args, argTypes := ats }, ty, pos, after, guard⟩ ⟨env, os⟩ K := by
  subst hs
  rw [op1_call]
  have key : callK C ⟨env, os⟩ n vs fun v s => K (s.put dst v) := by
    refine .inl ⟨ds, [], r, [], hl, hc, rfl, ?_⟩
    rw [shift_isR hr]
    simp only [freeze, List.append_nil, ite_self]
    exact h
  unfold calleeV at hv
  unfold calleeK
  split at hv
  · rename_i e
    simp only [Option.some.injEq, Prod.mk.injEq] at hv
    obtain ⟨rfl, rfl⟩ := hv
    simp only [e]; exact key
  · rename_i e
    simp only [Option.some.injEq, Prod.mk.injEq] at hv
    obtain ⟨rfl, rfl⟩ := hv
    simp only [e]; exact key
  · cases hv

theorem op1_pureF {f : Operand} {args : Array Operand} {ats : Array TypeId} {n : FuncId} {vs : List V} {ds : List D} {l : List Nat} {r : V} (hv : calleeV env f args.toList = some (n, vs)) (hl : mapL (leaf os) vs = some (ds, l))
    (hc : C n (ds.map .d) [] r []) (hr : r.isR = true) (h : K (St.put ⟨env, if r.scal = true then os else freeze os l⟩ dst r)) : op1K T C nF ⟨dst, .call { callee := .value f, args, argTypes := ats }, ty, pos, after, guard⟩ ⟨env, os⟩ K := by
  rw [op1_call]
  have key : callK C ⟨env, os⟩ n vs fun v s => K (s.put dst v) := by
    refine .inl ⟨ds, l, r, [], hl, hc, rfl, ?_⟩
    rw [shift_isR hr]
    simp only [List.append_nil, and_true]
    exact h
  unfold calleeV at hv
  unfold calleeK
  split at hv
  · rename_i e
    simp only [Option.some.injEq, Prod.mk.injEq] at hv
    obtain ⟨rfl, rfl⟩ := hv
    simp only [e]; exact key
  · rename_i e
    simp only [Option.some.injEq, Prod.mk.injEq] at hv
    obtain ⟨rfl, rfl⟩ := hv
    simp only [e]; exact key
  · cases hv

theorem gd_map_i {a : List Int} {n : Nat} : gd (a.map .i) n = .i (a.getD n 0) := by
  simp only [gd, List.getElem?_map, List.getD]
  cases a[n]? <;> rfl

theorem map_i_get {a : List Int} {k : Nat} (h : k < a.length) : gd (a.map .i) k = .i a[k] := by simp [gd, h]
theorem map_i_len {a : List Int} : (a.map D.i).length = a.length := by simp

end
end Go.PL

/- PlTrim -/
namespace Go.PL

/-- Without the zeros at the end. -/
def trim : List Int → List Int
  | [] => []
  | x :: r => match trim r with
    | [] => if x = 0 then [] else [x]
    | y :: t => x :: y :: t

theorem trim_zero (l : List Int) : trim (l ++ [0]) = trim l := by
  induction l with
  | nil => rfl
  | cons x r ih => simp only [List.cons_append, trim, ih]

theorem trim_ne {x : Int} (h : x ≠ 0) (l : List Int) : trim (l ++ [x]) = l ++ [x] := by
  induction l with
  | nil => simp [trim, h]
  | cons y r ih =>
    simp only [List.cons_append, trim, ih]
    cases r <;> rfl

theorem take_last {a : List Int} {k : Nat} (h0 : 0 < k) (hk : k ≤ a.length) : a.take k = a.take (k - 1) ++ [a.getD (k - 1) 0] := by
  obtain ⟨m, rfl⟩ : ∃ m, k = m + 1 := ⟨k - 1, by omega⟩
  simp only [Nat.add_sub_cancel]
  rw [List.take_add_one]
  congr 1
  simp [List.getD, List.getElem?_eq_getElem (show m < a.length by omega)]

theorem trim_take_zero {a : List Int} {k : Nat} (h0 : 0 < k) (hk : k ≤ a.length) (hz : a.getD (k - 1) 0 = 0) : trim (a.take (k - 1)) = trim (a.take k) := by
  rw [take_last h0 hk, hz, trim_zero]

theorem trim_take_ne {a : List Int} {k : Nat} (h0 : 0 < k) (hk : k ≤ a.length) (hz : a.getD (k - 1) 0 ≠ 0) : trim (a.take k) = a.take k := by
  conv => lhs; rw [take_last h0 hk, trim_ne hz]
  rw [take_last h0 hk]

end Go.PL
