/- A plain machine, sound for the given model, and contracts of functions over it, part 13: PlRun. Nothing is assumed. -/
import Derived.Test.YtfdjgoapdkpbaaaPlLib
import Derived.KernelRfl
set_option linter.unusedSimpArgs false
set_option linter.unusedVariables false
set_option linter.unusedSectionVars false
/- PlRun -/
/- The steps of the walk, each with its own evaluation behind it. -/
namespace Go.PL
open Go

attribute [go_sem] w64 tdiv_pos tmod_pos Nat.reduceBEq Nat.reduceAdd Nat.reduceSub Nat.reduceMul Nat.reduceLT Nat.reduceLeDiff Int.reduceToNat reduceCtorEq

section
variable {T : Tab} {C : Call} {nF : Nat} {s : St} {env : List (Nat × V)} {os : List Ob} {Q : Ex → St → Prop} {K : St → Prop} {R : Prop}

theorem wS {a b : Code} (h : ∀ K : St → Prop, Imp (fun s => Wp T C nF b s Q) K → Wp T C nF a s (thn K Q)) : Wp T C nF (.seq a b) s Q := .seqK h
theorem wB {id : Nat} {a : Code} (h : ∀ K : St → Prop, Imp (fun s => Q .normal s) K → Wp T C nF a s (blkK id K Q)) : Wp T C nF (.block id a) s Q := .blockK h
theorem wE {c : Operand} {a b : Code} {v : V} (h : bcase v (Wp T C nF a ⟨env, os⟩ Q) (Wp T C nF b ⟨env, os⟩ Q))
    (e : ev env c = v := by simp -implicitDefEqProofs (disch := omega) only [go_sem]; exact rfl) : Wp T C nF (.cond c a b) ⟨env, os⟩ Q := .condE e h

section
variable {d : Option Tmp} {op : Op} {r : List RO} {t : Tmp} {w : Bool} {v : V} {n : Nat}
theorem wG (h : gcase v w (op1R T C nF d op ⟨env, os⟩ (fun s => opsR T C nF r s K)) (opsR T C nF r (St.put ⟨env, os⟩ d undefV) K))
    (e : look env t = v := by simp -implicitDefEqProofs (disch := omega) only [go_sem]; exact rfl) : opsR T C nF (⟨d, op, some (some t, w)⟩ :: r) ⟨env, os⟩ K := opsR_g e h
theorem wGq (h : gcase v w (q1R T C nF d op ⟨env, os⟩ (fun s => qR T C nF n r s K)) (qR T C nF n r (St.put ⟨env, os⟩ d undefV) K))
    (e : look env t = v := by simp -implicitDefEqProofs (disch := omega) only [go_sem]; exact rfl) : qR T C nF (n + 1) (⟨d, op, some (some t, w)⟩ :: r) ⟨env, os⟩ K := qR_g e h
end
/-- A guard that is not known: both ways, the flag written over. -/
theorem wGt {b : Bool} {A B : Prop} (h1 : b = true → A) (h2 : b = false → B) : gcase (.d (.val (.bool b))) true A B := gcase_st h1 h2
theorem wGf {b : Bool} {A B : Prop} (h1 : b = true → B) (h2 : b = false → A) : gcase (.d (.val (.bool b))) false A B := gcase_sf h1 h2

def callV (f : V) (args : List V) (os : List Ob) : Option (FuncId × List V × List Nat) := match calleeR f args with
  | some (n, vs) => match mapL (leaf os) vs with
    | some (ds, l) => some (n, dV ds, l)
    | none => none
  | none => none
def callW (f : V) (args : List V) (os : List Ob) : Option (FuncId × List V × List Nat) := match calleeR f args with
  | some (n, vs) => match mapL (leaf os) vs with
    | some (ds, l) => some (n, nnV ds, l)
    | none => none
  | none => none
theorem callV_inv {f : V} {args : List V} {n : FuncId} {us : List V} {l : List Nat} (h : callV f args os = some (n, us, l)) : ∃ vs ds, calleeR f args = some (n, vs) ∧ mapL (leaf os) vs = some (ds, l) ∧ dV ds = us := by
  unfold callV at h
  split at h
  · rename_i n' vs h1
    split at h
    · rename_i ds l' h2
      simp only [Option.some.injEq, Prod.mk.injEq] at h
      obtain ⟨rfl, rfl, rfl⟩ := h
      exact ⟨vs, ds, h1, h2, rfl⟩
    · cases h
  · cases h
theorem callW_inv {f : V} {args : List V} {n : FuncId} {us : List V} {l : List Nat} (h : callW f args os = some (n, us, l)) : ∃ vs ds, calleeR f args = some (n, vs) ∧ mapL (leaf os) vs = some (ds, l) ∧ nnV ds = us := by
  unfold callW at h
  split at h
  · rename_i n' vs h1
    split at h
    · rename_i ds l' h2
      simp only [Option.some.injEq, Prod.mk.injEq] at h
      obtain ⟨rfl, rfl, rfl⟩ := h
      exact ⟨vs, ds, h1, h2, rfl⟩
    · cases h
  · cases h
section
variable {d : Tmp} {f : Operand} {args : List Operand} {ats : Array TypeId} {n : FuncId} {us : List V} {l : List Nat}
theorem wC (h : pcD C n us l os (fun v os' => K ⟨(d, v) :: env, os'⟩))
    (e : callV (ev env f) (evL env args) os = some (n, us, l) := by simp -implicitDefEqProofs (disch := omega) only [callV, go_sem]; exact rfl) :
    op1R T C nF (some d) (.call { callee := .value f, args := args.toArray, argTypes := ats }) ⟨env, os⟩ K := by
  obtain ⟨vs, ds, h1, h2, h3⟩ := callV_inv e
  exact r1_callE h1 h2 h3 h
theorem wC0 (h : pcD C n us l os (fun _ os' => K ⟨env, os'⟩))
    (e : callV (ev env f) (evL env args) os = some (n, us, l) := by simp -implicitDefEqProofs (disch := omega) only [callV, go_sem]; exact rfl) :
    op1R T C nF none (.call { callee := .value f, args := args.toArray, argTypes := ats }) ⟨env, os⟩ K := by
  obtain ⟨vs, ds, h1, h2, h3⟩ := callV_inv e
  exact r1_call0E h1 h2 h3 h
theorem wCq (h : pcDQ C n us l (fun v => K ⟨(d, v) :: env, os⟩))
    (e : callV (ev env f) (evL env args) os = some (n, us, l) := by simp -implicitDefEqProofs (disch := omega) only [callV, go_sem]; exact rfl) :
    q1R T C nF (some d) (.call { callee := .value f, args := args.toArray, argTypes := ats }) ⟨env, os⟩ K := by
  obtain ⟨vs, ds, h1, h2, h3⟩ := callV_inv e
  exact rq_callE h1 h2 h3 h
variable {P : Program} [TOk T P] {X : Call}
theorem wCn (h : pcD (Den P T X) n us l os (fun v os' => K ⟨(d, v) :: env, os'⟩))
    (e : callW (ev env f) (evL env args) os = some (n, us, l) := by simp -implicitDefEqProofs (disch := omega) only [callW, go_sem]; exact rfl) :
    op1R T (Den P T X) nF (some d) (.call { callee := .value f, args := args.toArray, argTypes := ats }) ⟨env, os⟩ K := by
  obtain ⟨vs, ds, h1, h2, h3⟩ := callW_inv e
  exact r1_callN h1 h2 h3 h
theorem wC0n (h : pcD (Den P T X) n us l os (fun _ os' => K ⟨env, os'⟩))
    (e : callW (ev env f) (evL env args) os = some (n, us, l) := by simp -implicitDefEqProofs (disch := omega) only [callW, go_sem]; exact rfl) :
    op1R T (Den P T X) nF none (.call { callee := .value f, args := args.toArray, argTypes := ats }) ⟨env, os⟩ K := by
  obtain ⟨vs, ds, h1, h2, h3⟩ := callW_inv e
  exact r1_call0N h1 h2 h3 h
theorem wCqn (h : pcDQ (Den P T X) n us l (fun v => K ⟨(d, v) :: env, os⟩))
    (e : callW (ev env f) (evL env args) os = some (n, us, l) := by simp -implicitDefEqProofs (disch := omega) only [callW, go_sem]; exact rfl) :
    q1R T (Den P T X) nF (some d) (.call { callee := .value f, args := args.toArray, argTypes := ats }) ⟨env, os⟩ K := by
  obtain ⟨vs, ds, h1, h2, h3⟩ := callW_inv e
  exact rq_callN h1 h2 h3 h
end
end

/-- Arguments with nil slices as slices of no elements. -/
def nnVs : List V → List V
  | [] => []
  | .d x :: r => .d (nnD x) :: nnVs r
  | v :: r => v :: nnVs r
theorem nnVs_nil : nnVs [] = [] := rfl
theorem nnVs_cons {x : D} {r : List V} : nnVs (.d x :: r) = .d (nnD x) :: nnVs r := rfl
theorem nnVs_le : ∀ us : List V, VsLe us (nnVs us)
  | [] => ⟨rfl, fun i hi => by simp at hi⟩
  | v :: r => by
    obtain ⟨h1, h2⟩ := nnVs_le r
    have key : ∃ u, nnVs (v :: r) = u :: nnVs r ∧ VLe v u := by
      cases v with
      | d x => exact ⟨_, rfl, .d (nnD_le x)⟩
      | _ => exact ⟨_, rfl, .refl _⟩
    obtain ⟨u, e, hu⟩ := key
    rw [e]
    refine ⟨by simp [h1], fun i hi => ?_⟩
    cases i with
    | zero => exact hu
    | succ i => exact h2 i (by simpa using hi)
attribute [go_sem] nnVs_nil nnVs_cons
section
variable {P : Program} {T : Tab} [TOk T P] {X : Call} {n : FuncId} {us us' : List V} {l : List Nat} {os : List Ob}
theorem pcDn {K : V → List Ob → Prop} (h : pcD (Den P T X) n us' l os K) (e : nnVs us = us' := by simp -implicitDefEqProofs (disch := omega) only [go_sem]; exact rfl) : pcD (Den P T X) n us l os K := by
  subst e
  obtain ⟨r, h1, h2⟩ := h
  exact ⟨r, Den.le (nnVs_le us) (.refl _) h1, h2⟩
theorem pcDQn {K : V → Prop} (h : pcDQ (Den P T X) n us' l K) (e : nnVs us = us' := by simp -implicitDefEqProofs (disch := omega) only [go_sem]; exact rfl) : pcDQ (Den P T X) n us l K := by
  subst e
  obtain ⟨r, h1, h2⟩ := h
  exact ⟨r, Den.le (nnVs_le us) (.refl _) h1, h2⟩
end
section
variable {C : Call} {n : FuncId} {vs : List V} {l : List Nat} {os : List Ob} {r : V} {pre : Prop}
/-- A call by its contract. -/
theorem pN {K : V → List Ob → Prop} [i : Con C n vs pre r] (h : pre) (h2 : r.isR = true) (h3 : bindO (some (True, r, bif r.scal then os else freeze os l)) K) : pcD C n vs l os K := pcD_con h h2 h3
theorem pQ {K : V → Prop} [i : Con C n vs pre r] (h : pre) (h2 : r.isR = true) (h4 : r.scal = true ∨ l = []) (h3 : K r) : pcDQ C n vs l K := pcDQ_con h h2 h4 h3
theorem pNc {K : V → List Ob → Prop} (h : C n vs [] r []) (h2 : r.isR = true) (h3 : bindO (some (True, r, bif r.scal then os else freeze os l)) K) : pcD C n vs l os K := pcD_den h h2 h3
theorem pQc {K : V → Prop} (h : C n vs [] r []) (h2 : r.isR = true) (h4 : r.scal = true ∨ l = []) (h3 : K r) : pcDQ C n vs l K := pcDQ_den h h2 h4 h3
end
/-- What is read on by simp. -/
class Sx (P : Prop) : Prop
section
variable {T : Tab} {C : Call} {nF : Nat} {s : St} {Q : Ex → St → Prop} {K : St → Prop} {A : Prop}
instance {l : List RO} : Sx (opsR T C nF l s K) := ⟨⟩
instance {n : Nat} {l : List RO} : Sx (qR T C nF n l s K) := ⟨⟩
instance {d : Option Tmp} {op : Op} : Sx (op1R T C nF d op s K) := ⟨⟩
instance {d : Option Tmp} {op : Op} : Sx (q1R T C nF d op s K) := ⟨⟩
instance {r : Option (Prop × V × List Ob)} {K : V → List Ob → Prop} : Sx (bindO r K) := ⟨⟩
instance {r : Option (Prop × V)} {K : V → Prop} : Sx (bindP r K) := ⟨⟩
instance {r : Option (Prop × V × List (Nat × V) × List Ob)} {K : V → List (Nat × V) → List Ob → Prop} : Sx (bindA r K) := ⟨⟩
instance {e : Ex} : Sx (thn K Q e s) := ⟨⟩
instance {d : Option Tmp} {s' : St} : Sx (same d s s') := ⟨⟩
instance {i : Nat} {e : Ex} : Sx (blkK i K Q e s) := ⟨⟩
instance {e : Ex} : Sx (endQ K e s) := ⟨⟩
theorem nx {P : Prop} [Sx P] (h : P) : P := h
theorem rR {id : Nat} {l : List Oper} (h : opsR T C nF (resL (dsts l) l) s (Q .normal)) : Wp T C nF (.region id l.toArray false) s Q := .regionR h
theorem rD {id : Nat} {l : List Oper} (h : qR T C nF (quietLen l) (resL (dsts l) l) s (Q .normal)) (hd : drawOk l.toArray (quietLen l) = true := by kernel_rfl) : Wp T C nF (.region id l.toArray true) s Q := .drawR hd h
theorem an {A B : Prop} (hb : B) (ha : A := by first | omega | exact Or.inr trivial | exact trivial | (simp only [LX]; omega)) : A ∧ B := ⟨ha, hb⟩
end
theorem TX : (∀ (K : St → Prop) (Q : Ex → St → Prop) s, thn K Q .normal s = K s) ∧ (∀ (K : St → Prop) (Q : Ex → St → Prop) s n, thn K Q (.exit n) s = Q (.exit n) s) ∧ (∀ (K : St → Prop) (Q : Ex → St → Prop) s, thn K Q .ret s = Q .ret s) ∧
    (∀ i (K : St → Prop) (Q : Ex → St → Prop) s, blkK i K Q .normal s = K s) ∧ (∀ i (K : St → Prop) (Q : Ex → St → Prop) s, blkK i K Q .ret s = Q .ret s) ∧ (∀ i n (K : St → Prop) (Q : Ex → St → Prop) s, blkK i K Q (.exit n) s = bif n == i then K s else Q (.exit n) s) ∧
    (∀ (K : St → Prop) s, endQ K .ret s = K s) ∧ (∀ (K : St → Prop) s, endQ K .normal s = K s) ∧ (∀ (K : St → Prop) s n, endQ K (.exit n) s = False) ∧ (∀ a b : Prop, (bif true then a else b) = a) ∧ (∀ a b : Prop, (bif false then a else b) = b) :=
  ⟨fun _ _ _ => rfl, fun _ _ _ _ => rfl, fun _ _ _ => rfl, fun _ _ _ _ => rfl, fun _ _ _ _ => rfl, fun _ _ _ _ _ => rfl, fun _ _ => rfl, fun _ _ => rfl, fun _ _ _ => rfl, fun _ _ => rfl, fun _ _ => rfl⟩
theorem FX : (∀ (p : Prop) [Decidable p], (decide p = true) = p) ∧ (∀ (p : Prop) [Decidable p], (decide p = false) = ¬p) ∧ (∀ a b : Int, ((a == b) = true) = (a = b)) ∧ (∀ a b : Int, ((a != b) = true) = (a ≠ b)) ∧ (∀ a b : Int, ((a == b) = false) = (a ≠ b)) ∧ (∀ a b : Int, ((a != b) = false) = (a = b)) ∧
    (∀ a b : Bool, ((a == b) = true) = (a = b)) ∧ (∀ a b : Bool, ((a != b) = true) = (a ≠ b)) ∧ (∀ a b : Bool, ((a == b) = false) = (a ≠ b)) ∧ (∀ a b : Bool, ((a != b) = false) = (a = b)) ∧
    (∀ a b : Int, (¬a < b) = (b ≤ a)) ∧ (∀ a b : Int, (¬a ≤ b) = (b < a)) ∧ (∀ b : Bool, (¬b = true) = (b = false)) ∧ (∀ b : Bool, (¬b = false) = (b = true)) ∧ (∀ b : Bool, ((!b) = true) = (b = false)) ∧ (∀ b : Bool, ((!b) = false) = (b = true)) ∧
    (∀ a b : Bool, ((a && b) = true) = (a = true ∧ b = true)) ∧ ((false = true) = False) ∧ ((true = false) = False) ∧ (∀ a b : Bool, ((a && b) = false) = (a = false ∨ b = false)) := by
  refine ⟨?_, ?_, ?_, ?_, ?_, ?_, ?_, ?_, ?_, ?_, ?_, ?_, ?_, ?_, ?_, ?_, ?_, ?_, ?_, fun a b => by cases a <;> cases b <;> simp⟩ <;> intros <;> simp
theorem LX : (∀ {α : Type} (a b : List α), (a ++ b).length = a.length + b.length) ∧ (∀ {α : Type} (n : Nat) (a : α), (List.replicate n a).length = n) ∧ (∀ {α : Type} (l : List α) (i : Nat) (x : α), (l.set i x).length = l.length) ∧ (∀ {α : Type} (l : List α) (i : Nat), (l.take i).length = min i l.length) ∧
    (∀ {α : Type} (l : List α) (i : Nat), (l.drop i).length = l.length - i) ∧ (∀ {α : Type} (x : α) (l : List α), (x :: l).length = l.length + 1) ∧ (∀ {α : Type}, ([] : List α).length = 0) := by
  refine ⟨?_, ?_, ?_, ?_, ?_, ?_, ?_⟩ <;> intros <;> simp
end Go.PL
