/- A plain machine, sound for the given model, and contracts of functions over it, part 10: PlGo. Nothing is assumed. -/
import Derived.Test.YtfdjgoapdkpbaaaPlWalk
set_option linter.unusedSimpArgs false
set_option linter.unusedVariables false
set_option linter.unusedSectionVars false
/- PlGo -/
/- The walk by one simp set: regions resolved, guards as cases, calls by instances. -/
namespace Go.PL
open Go

section
variable {T : Tab} {C : Call} {nF : Nat} {s : St} {env : List (Nat × V)} {os : List Ob} {Q : Ex → St → Prop} {K : St → Prop}

/-- An operation as the walk reads it: a guard is the place of its flag. -/
structure RO where
  dst : Option Tmp
  op : Op
  g : Option (Option Tmp × Bool)

def resG (ds : List (Option Tmp)) : Option (Nat × Bool) → Option (Option Tmp × Bool)
  | none => none
  | some (j, w) => some ((ds[j]?).getD none, w)

def resL (ds : List (Option Tmp)) : List Oper → List RO
  | [] => []
  | o :: r => ⟨o.dst, o.op, resG ds o.guard⟩ :: resL ds r

def gval (env : List (Nat × V)) : Option Tmp → V
  | some t => look env t
  | none => .any

def gcase (v : V) (want : Bool) (A B : Prop) : Prop := match v with
  | .d (.val (.bool b)) => (b = want → A) ∧ (b = !want → B)
  | .d (.val (.tuple _)) => B
  | _ => False

def bcase (v : V) (A B : Prop) : Prop := match v with
  | .d (.val (.bool b)) => (b = true → A) ∧ (b = false → B)
  | _ => False

def op1R (T : Tab) (C : Call) (nF : Nat) (d : Option Tmp) (op : Op) (s : St) (K : St → Prop) : Prop := op1K T C nF ⟨d, op, 0, "", #[], none⟩ s K
def q1R (T : Tab) (C : Call) (nF : Nat) (d : Option Tmp) (op : Op) (s : St) (K : St → Prop) : Prop := quiet1K T C nF ⟨d, op, 0, "", #[], none⟩ s K

def opsR (T : Tab) (C : Call) (nF : Nat) : List RO → St → (St → Prop) → Prop
  | [], s, K => K s
  | ⟨d, op, none⟩ :: r, s, K => op1R T C nF d op s fun s => opsR T C nF r s K
  | ⟨d, op, some (t, w)⟩ :: r, s, K => gcase (gval s.env t) w (op1R T C nF d op s fun s => opsR T C nF r s K) (opsR T C nF r (s.put d undefV) K)

def qR (T : Tab) (C : Call) (nF : Nat) : Nat → List RO → St → (St → Prop) → Prop
  | 0, l, s, K => opsR T C nF l s K
  | _ + 1, [], s, K => K s
  | n + 1, ⟨d, op, none⟩ :: r, s, K => q1R T C nF d op s fun s => qR T C nF n r s K
  | n + 1, ⟨d, op, some (t, w)⟩ :: r, s, K => gcase (gval s.env t) w (q1R T C nF d op s fun s => qR T C nF n r s K) (qR T C nF n r (s.put d undefV) K)

theorem guard_of {all : Array Oper} {ds : List (Option Tmp)} (hd : ds = all.toList.map (·.dst)) {o : Oper} {j : Nat} {w : Bool} (hg : o.guard = some (j, w)) {A B : Prop} (h : gcase (gval s.env ((ds[j]?).getD none)) w A B) : guardK all o s A B := by
  unfold guardK
  rw [hg]
  have e : (ds[j]?).getD none = (all[j]?).bind (·.dst) := by
    subst hd
    rw [List.getElem?_map, Array.getElem?_toList]
    cases all[j]? <;> rfl
  simp only [e] at h ⊢
  cases hx : (all[j]?).bind (·.dst) with
  | none => rw [hx] at h; exact h.elim
  | some t => rw [hx] at h; exact h

theorem opsR_ops {all : Array Oper} {ds : List (Option Tmp)} (hd : ds = all.toList.map (·.dst)) : ∀ {l : List Oper} {s : St}, opsR T C nF (resL ds l) s K → opsK T C nF all l s K
  | [], s, h => h
  | o :: r, s, h => by
    simp only [opsK]
    obtain ⟨dst, op, ty, pos, after, g⟩ := o
    cases g with
    | none => exact op1K_mono (o := ⟨dst, op, ty, pos, after, none⟩) (K := fun s => opsR T C nF (resL ds r) s K) (fun _ _ _ _ _ h => h) (fun s h => opsR_ops hd h) h
    | some x =>
      obtain ⟨j, w⟩ := x
      exact guardK_mono (op1K_mono (o := ⟨dst, op, ty, pos, after, some (j, w)⟩) (fun _ _ _ _ _ h => h) (fun s h => opsR_ops hd h)) (fun h => opsR_ops hd h) (guard_of hd (o := ⟨dst, op, ty, pos, after, some (j, w)⟩) rfl h)

theorem qR_q {all : Array Oper} {ds : List (Option Tmp)} (hd : ds = all.toList.map (·.dst)) : ∀ {n : Nat} {l : List Oper} {s : St}, qR T C nF n (resL ds l) s K → qN T C nF all n l s K
  | 0, l, s, h => by rw [qN_zero]; cases l <;> exact opsR_ops hd h
  | n + 1, [], s, h => h
  | n + 1, o :: r, s, h => by
    simp only [qN]
    obtain ⟨dst, op, ty, pos, after, g⟩ := o
    cases g with
    | none => exact quiet1K_mono (o := ⟨dst, op, ty, pos, after, none⟩) (K := fun s => qR T C nF n (resL ds r) s K) (fun _ _ _ _ _ h => h) (fun s h => qR_q hd h) h
    | some x =>
      obtain ⟨j, w⟩ := x
      exact guardK_mono (quiet1K_mono (o := ⟨dst, op, ty, pos, after, some (j, w)⟩) (fun _ _ _ _ _ h => h) (fun s h => qR_q hd h)) (fun h => qR_q hd h) (guard_of hd (o := ⟨dst, op, ty, pos, after, some (j, w)⟩) rfl h)

/-- The places of a region. -/
def dsts : List Oper → List (Option Tmp)
  | [] => []
  | o :: r => o.dst :: dsts r
theorem dsts_eq : ∀ l : List Oper, dsts l = l.map (·.dst)
  | [] => rfl
  | o :: r => by rw [dsts, dsts_eq r]; rfl
theorem Wp.regionR {id : Nat} {l : List Oper} (h : opsR T C nF (resL (dsts l) l) s (Q .normal)) : Wp T C nF (.region id l.toArray false) s Q :=
  .region (opsR_ops (by simp [dsts_eq]) h)

theorem Wp.drawR {id : Nat} {l : List Oper} (hd : drawOk l.toArray (quietLen l) = true) (h : qR T C nF (quietLen l) (resL (dsts l) l) s (Q .normal)) : Wp T C nF (.region id l.toArray true) s Q :=
  .drawQ hd (qR_q (by simp [dsts_eq]) h)

theorem Wp.condR {c : Operand} {a b : Code} (h : bcase (ev env c) (Wp T C nF a ⟨env, os⟩ Q) (Wp T C nF b ⟨env, os⟩ Q)) : Wp T C nF (.cond c a b) ⟨env, os⟩ Q := by
  unfold bcase at h
  split at h
  · rename_i t ht
    exact .cond t ht h.1 h.2
  · exact h.elim

theorem resG_none {ds : List (Option Tmp)} : resG ds none = none := rfl
theorem resG_some {ds : List (Option Tmp)} {j : Nat} {w : Bool} : resG ds (some (j, w)) = some ((ds[j]?).getD none, w) := rfl
theorem resL_nil {ds : List (Option Tmp)} : resL ds [] = [] := rfl
theorem resL_cons {ds : List (Option Tmp)} {d : Option Tmp} {op : Op} {ty : TypeId} {pos : String} {after : Array Edge} {g : Option (Nat × Bool)} {r : List Oper} :
    resL ds (⟨d, op, ty, pos, after, g⟩ :: r) = ⟨d, op, resG ds g⟩ :: resL ds r := rfl
theorem dsts_nil : dsts [] = [] := rfl
theorem dsts_cons {d : Option Tmp} {op : Op} {ty : TypeId} {pos : String} {after : Array Edge} {g : Option (Nat × Bool)} {r : List Oper} : dsts (⟨d, op, ty, pos, after, g⟩ :: r) = d :: dsts r := rfl

theorem opsR_nil : opsR T C nF [] s K = K s := rfl
theorem opsR_run {d : Option Tmp} {op : Op} {r : List RO} : opsR T C nF (⟨d, op, none⟩ :: r) ⟨env, os⟩ K = op1R T C nF d op ⟨env, os⟩ (fun s => opsR T C nF r s K) := rfl
theorem opsR_gd {d : Tmp} {op : Op} {r : List RO} {t : Option Tmp} {w : Bool} : opsR T C nF (⟨some d, op, some (t, w)⟩ :: r) ⟨env, os⟩ K =
    gcase (gval env t) w (op1R T C nF (some d) op ⟨env, os⟩ (fun s => opsR T C nF r s K)) (opsR T C nF r ⟨(d, undefV) :: env, os⟩ K) := rfl
theorem opsR_gd0 {op : Op} {r : List RO} {t : Option Tmp} {w : Bool} : opsR T C nF (⟨none, op, some (t, w)⟩ :: r) ⟨env, os⟩ K =
    gcase (gval env t) w (op1R T C nF none op ⟨env, os⟩ (fun s => opsR T C nF r s K)) (opsR T C nF r ⟨env, os⟩ K) := rfl
theorem qR_zero {l : List RO} : qR T C nF 0 l s K = opsR T C nF l s K := by cases l <;> rfl
theorem qR_nil {n : Nat} : qR T C nF (n + 1) [] s K = K s := rfl
theorem qR_run {n : Nat} {d : Option Tmp} {op : Op} {r : List RO} : qR T C nF (n + 1) (⟨d, op, none⟩ :: r) ⟨env, os⟩ K = q1R T C nF d op ⟨env, os⟩ (fun s => qR T C nF n r s K) := rfl
theorem qR_gd {n : Nat} {d : Tmp} {op : Op} {r : List RO} {t : Option Tmp} {w : Bool} : qR T C nF (n + 1) (⟨some d, op, some (t, w)⟩ :: r) ⟨env, os⟩ K =
    gcase (gval env t) w (q1R T C nF (some d) op ⟨env, os⟩ (fun s => qR T C nF n r s K)) (qR T C nF n r ⟨(d, undefV) :: env, os⟩ K) := rfl
theorem gval_some {t : Tmp} : gval env (some t) = look env t := rfl

@[congr] theorem gcase_congr {v v' : V} {w : Bool} {A B : Prop} (h : v = v') : gcase v w A B = gcase v' w A B := by rw [h]
@[congr] theorem bcase_congr {v v' : V} {A B : Prop} (h : v = v') : bcase v A B = bcase v' A B := by rw [h]
@[congr] theorem cond_congrC {α : Type} {b b' : Bool} {x y : α} (h : b = b') : cond b x y = cond b' x y := by rw [h]
theorem gcase_tt {A B : Prop} : gcase (.d (.val (.bool true))) true A B = A := by simp [gcase]
theorem gcase_tf {A B : Prop} : gcase (.d (.val (.bool true))) false A B = B := by simp [gcase]
theorem gcase_ft {A B : Prop} : gcase (.d (.val (.bool false))) true A B = B := by simp [gcase]
theorem gcase_ff {A B : Prop} : gcase (.d (.val (.bool false))) false A B = A := by simp [gcase]
theorem gcase_u {w : Bool} {A B : Prop} : gcase undefV w A B = B := rfl
theorem bcase_t {A B : Prop} : bcase (.d (.val (.bool true))) A B = A := by simp [bcase]
theorem bcase_f {A B : Prop} : bcase (.d (.val (.bool false))) A B = B := by simp [bcase]
theorem gcase_st {b : Bool} {A B : Prop} (h1 : b = true → A) (h2 : b = false → B) : gcase (.d (.val (.bool b))) true A B := ⟨h1, h2⟩
theorem gcase_sf {b : Bool} {A B : Prop} (h1 : b = true → B) (h2 : b = false → A) : gcase (.d (.val (.bool b))) false A B := ⟨h2, h1⟩
theorem bcase_s {b : Bool} {A B : Prop} (h1 : b = true → A) (h2 : b = false → B) : bcase (.d (.val (.bool b))) A B := ⟨h1, h2⟩

/-- Operands and parts, read. -/
def evL (env : List (Nat × V)) : List Operand → List V
  | [] => []
  | x :: r => ev env x :: evL env r
theorem evL_eq : ∀ l : List Operand, evL env l = l.map (ev env)
  | [] => rfl
  | x :: r => by rw [evL, evL_eq r]; rfl
def evP (env : List (Nat × V)) : List (Nat × Operand) → List (Nat × V)
  | [] => []
  | x :: r => (x.1, ev env x.2) :: evP env r
theorem evP_eq : ∀ l : List (Nat × Operand), evP env l = l.map (fun x => (x.1, ev env x.2))
  | [] => rfl
  | x :: r => by rw [evP, evP_eq r]; rfl
def zV : List Value → List V
  | [] => []
  | x :: r => .d (.val x) :: zV r
theorem zV_eq : ∀ l : List Value, zV l = l.map (fun v => V.d (.val v))
  | [] => rfl
  | x :: r => by rw [zV, zV_eq r]; rfl
def zVn (l : List V) : Nat → List V
  | 0 => []
  | n + 1 => l ++ zVn l n
theorem zVn_eq {l : List V} : ∀ n : Nat, zVn l n = (List.replicate n l).flatten
  | 0 => rfl
  | n + 1 => by rw [zVn, zVn_eq n, List.replicate_succ, List.flatten_cons]
def dV : List D → List V
  | [] => []
  | x :: r => .d x :: dV r
theorem dV_eq : ∀ l : List D, dV l = l.map .d
  | [] => rfl
  | x :: r => by rw [dV, dV_eq r]; rfl
theorem evL_nil : evL env [] = [] := rfl
theorem evL_cons {x : Operand} {r : List Operand} : evL env (x :: r) = ev env x :: evL env r := rfl
theorem evP_nil : evP env [] = [] := rfl
theorem evP_cons {j : Nat} {x : Operand} {r : List (Nat × Operand)} : evP env ((j, x) :: r) = (j, ev env x) :: evP env r := rfl
theorem zV_nil : zV [] = [] := rfl
theorem zV_cons {x : Value} {r : List Value} : zV (x :: r) = .d (.val x) :: zV r := rfl
theorem zVn_zero {l : List V} : zVn l 0 = [] := rfl
theorem zVn_succ {l : List V} {n : Nat} : zVn l (n + 1) = l ++ zVn l n := rfl
theorem dV_nil : dV [] = [] := rfl
theorem dV_cons {x : D} {r : List D} : dV (x :: r) = .d x :: dV r := rfl
theorem dV_app {a b : List D} : dV (a ++ b) = dV a ++ dV b := by simp [dV_eq]

/-- One of two values. -/
def pickV (t : Bool) (a b : V) : V := bif t then a else b
theorem pickV_t {a b : V} : pickV true a b = a := rfl
theorem pickV_f {a b : V} : pickV false a b = b := rfl
theorem pickV_b {t a b : Bool} : pickV t (.d (.val (.bool a))) (.d (.val (.bool b))) = .d (.val (.bool (bif t then a else b))) := by cases t <;> rfl
theorem pickV_i {t : Bool} {k : IntKind} {a b : Int} : pickV t (.d (.val (.int k a))) (.d (.val (.int k b))) = .d (.val (.int k (bif t then a else b))) := by cases t <;> rfl

/-- What is called, and with what. -/
def calleeR (f : V) (args : List V) : Option (FuncId × List V) :=
  match f with
  | .d (.fn (.func n) a b) => some (n, dV a ++ args ++ dV b)
  | .fn (.func n) a b => some (n, a ++ args ++ b)
  | _ => none
theorem callee_d {n : FuncId} {a b : List D} {args : List V} : calleeR (.d (.fn (.func n) a b)) args = some (n, dV a ++ args ++ dV b) := rfl
theorem callee_f {n : FuncId} {a b args : List V} : calleeR (.fn (.func n) a b) args = some (n, a ++ args ++ b) := rfl

def callR (C : Call) (c : Option (FuncId × List V)) (os : List Ob) (K : V → List Ob → Prop) : Prop :=
  match c with
  | some (n, vs) => callK C ⟨[], os⟩ n vs fun v s => K v s.os
  | none => False

def callQ (C : Call) (c : Option (FuncId × List V)) (os : List Ob) (K : V → Prop) : Prop :=
  match c with
  | some (n, vs) => quietCall C ⟨[], os⟩ n vs K
  | none => False

/-- A call of data. -/
def pc (C : Call) (n : FuncId) (a : Option (List D × List Nat)) (os : List Ob) (K : V → List Ob → Prop) : Prop :=
  match a with
  | some (ds, l) => ∃ r, C n (dV ds) [] r [] ∧ r.isR = true ∧ K r (bif r.scal then os else freeze os l)
  | none => False
def pcQ (C : Call) (n : FuncId) (a : Option (List D × List Nat)) (K : V → Prop) : Prop :=
  match a with
  | some (ds, l) => ∃ r, C n (dV ds) [] r [] ∧ r.isR = true ∧ (r.scal = true ∨ l = []) ∧ K r
  | none => False

theorem callR_pure {n : FuncId} {vs : List V} {K : V → List Ob → Prop} (h : pc C n (mapL (leaf os) vs) os K) : callR C (some (n, vs)) os K := by
  unfold pc at h
  split at h
  · rename_i ds l hl
    obtain ⟨r, h1, h2, h3⟩ := h
    refine .inl ⟨ds, l, r, [], hl, by rw [← dV_eq]; exact h1, rfl, ?_⟩
    rw [shift_isR h2]
    cases hs : r.scal <;> rw [hs] at h3 <;> simpa using h3
  · exact h.elim

theorem callQ_pure {n : FuncId} {vs : List V} {K : V → Prop} (h : pcQ C n (mapL (leaf os) vs) K) : callQ C (some (n, vs)) os K := by
  unfold pcQ at h
  split at h
  · rename_i ds l hl
    obtain ⟨r, h1, h2, h3, h4⟩ := h
    refine ⟨ds, l, r, hl, by rw [← dV_eq]; exact h1, h3, ?_⟩
    rw [shift_isR h2]; exact h4
  · exact h.elim

/-- What a call comes to, by its number and the form of its arguments. -/
class Con (C : Call) (n : FuncId) (vs : List V) (pre : outParam Prop) (r : outParam V) : Prop where
  ok : pre → C n vs [] r []

/-- A call as data. -/
def pcD (C : Call) (n : FuncId) (vs : List V) (l : List Nat) (os : List Ob) (K : V → List Ob → Prop) : Prop := ∃ r, C n vs [] r [] ∧ r.isR = true ∧ K r (bif r.scal then os else freeze os l)
def pcDQ (C : Call) (n : FuncId) (vs : List V) (l : List Nat) (K : V → Prop) : Prop := ∃ r, C n vs [] r [] ∧ r.isR = true ∧ (r.scal = true ∨ l = []) ∧ K r
theorem pc_some {n : FuncId} {ds : List D} {l : List Nat} {K : V → List Ob → Prop} : pc C n (some (ds, l)) os K = pcD C n (dV ds) l os K := rfl
theorem pcQ_some {n : FuncId} {ds : List D} {l : List Nat} {K : V → Prop} : pcQ C n (some (ds, l)) K = pcDQ C n (dV ds) l K := rfl

/-- A step that hands a value on under a condition. -/
def bindP (r : Option (Prop × V)) (K : V → Prop) : Prop := match r with
  | some (p, v) => p ∧ K v
  | none => False
def bindO (r : Option (Prop × V × List Ob)) (K : V → List Ob → Prop) : Prop := match r with
  | some (p, v, os) => p ∧ K v os
  | none => False
theorem pcD_den {n : FuncId} {vs : List V} {l : List Nat} {K : V → List Ob → Prop} {r : V} (h : C n vs [] r []) (h2 : r.isR = true) (h3 : bindO (some (True, r, bif r.scal then os else freeze os l)) K) : pcD C n vs l os K := ⟨r, h, h2, h3.2⟩
theorem pcDQ_den {n : FuncId} {vs : List V} {l : List Nat} {K : V → Prop} {r : V} (h : C n vs [] r []) (h2 : r.isR = true) (h4 : r.scal = true ∨ l = []) (h3 : K r) : pcDQ C n vs l K := ⟨r, h, h2, h4, h3⟩
theorem pcD_con {n : FuncId} {vs : List V} {l : List Nat} {K : V → List Ob → Prop} {pre : Prop} {r : V} [i : Con C n vs pre r] (h : pre) (h2 : r.isR = true) (h3 : bindO (some (True, r, bif r.scal then os else freeze os l)) K) : pcD C n vs l os K := ⟨r, i.ok h, h2, h3.2⟩
theorem pcDQ_con {n : FuncId} {vs : List V} {l : List Nat} {K : V → Prop} {pre : Prop} {r : V} [i : Con C n vs pre r] (h : pre) (h2 : r.isR = true) (h4 : r.scal = true ∨ l = []) (h3 : K r) : pcDQ C n vs l K := ⟨r, i.ok h, h2, h4, h3⟩


def bindA (r : Option (Prop × V × List (Nat × V) × List Ob)) (K : V → List (Nat × V) → List Ob → Prop) : Prop := match r with
  | some (p, v, env, os) => p ∧ K v env os
  | none => False
@[congr] theorem bindP_congr {r r' : Option (Prop × V)} {K : V → Prop} (h : r = r') : bindP r K = bindP r' K := by rw [h]
@[congr] theorem bindO_congr {r r' : Option (Prop × V × List Ob)} {K : V → List Ob → Prop} (h : r = r') : bindO r K = bindO r' K := by rw [h]
@[congr] theorem bindA_congr {r r' : Option (Prop × V × List (Nat × V) × List Ob)} {K : V → List (Nat × V) → List Ob → Prop} (h : r = r') : bindA r K = bindA r' K := by rw [h]
@[congr] theorem callR_congr {c c' : Option (FuncId × List V)} {K : V → List Ob → Prop} (h : c = c') : callR C c os K = callR C c' os K := by rw [h]
@[congr] theorem callQ_congr {c c' : Option (FuncId × List V)} {K : V → Prop} (h : c = c') : callQ C c os K = callQ C c' os K := by rw [h]
@[congr] theorem pc_congr {n : FuncId} {a a' : Option (List D × List Nat)} {K : V → List Ob → Prop} (h : a = a') : pc C n a os K = pc C n a' os K := by rw [h]
@[congr] theorem pcQ_congr {n : FuncId} {a a' : Option (List D × List Nat)} {K : V → Prop} (h : a = a') : pcQ C n a K = pcQ C n a' K := by rw [h]
@[congr] theorem pcD_congr {n : FuncId} {vs vs' : List V} {l l' : List Nat} {K : V → List Ob → Prop} (h : vs = vs') (h2 : l = l') : pcD C n vs l os K = pcD C n vs' l' os K := by rw [h, h2]
@[congr] theorem pcDQ_congr {n : FuncId} {vs vs' : List V} {l l' : List Nat} {K : V → Prop} (h : vs = vs') (h2 : l = l') : pcDQ C n vs l K = pcDQ C n vs' l' K := by rw [h, h2]
theorem bindP_t {v : V} {K : V → Prop} : bindP (some (True, v)) K = K v := by simp [bindP]
theorem bindP_some {p : Prop} {v : V} {K : V → Prop} : bindP (some (p, v)) K = (p ∧ K v) := rfl
theorem bindO_t {v : V} {K : V → List Ob → Prop} : bindO (some (True, v, os)) K = K v os := by simp [bindO]
theorem bindO_some {p : Prop} {v : V} {K : V → List Ob → Prop} : bindO (some (p, v, os)) K = (p ∧ K v os) := rfl
theorem bindA_some {p : Prop} {v : V} {K : V → List (Nat × V) → List Ob → Prop} : bindA (some (p, v, env, os)) K = (p ∧ K v env os) := rfl

def pickF (c a b : V) : Option (Prop × V) := match c with
  | .d (.val (.bool t)) => some (True, pickV t a b)
  | _ => none
def nilF (x : V) : Option (Prop × V) := match x with
  | .ref o i j => some (True, .ref o i j)
  | .d (.ptr cs) => some (True, .d (.ptr cs))
  | .fn (.func f) a b => some (True, .fn (.func f) a b)
  | .d (.fn (.func f) a b) => some (True, .d (.fn (.func f) a b))
  | _ => none
def intF (op : BinOp) (k : IntKind) (a : Int) (k' : IntKind) (b : Int) : Option (Prop × V) := match op with
  | .quo => some (k = k' ∧ b ≠ 0, .d (.val (.int k (k.wrap (a.tdiv b)))))
  | .rem => some (k = k' ∧ b ≠ 0, .d (.val (.int k (a.tmod b))))
  | op => match arith op k a b with | some v => some (k = k', .d (.val v)) | none => none
def strF (op : BinOp) (a b : ByteArray) : Option (Prop × V) := match op with
  | .add => some (a.size + b.size ≤ 9223372036854775807, .d (.val (.string (a ++ b))))
  | op => match strOp op a b with | some v => some (True, .d (.val v)) | none => none
def eqneF (op : BinOp) (t : Bool) : Option (Prop × V) := match op with
  | .eql => some (True, .d (.val (.bool t)))
  | .neq => some (True, .d (.val (.bool !t)))
  | _ => none
def andF (p : Prop) (r : Option (Prop × V)) : Option (Prop × V) := match r with
  | some (q, v) => some (p ∧ q, v)
  | none => none
theorem andF_some {p q : Prop} {v : V} : andF p (some (q, v)) = some (p ∧ q, v) := rfl
theorem bindP_and {p : Prop} {r : Option (Prop × V)} {K : V → Prop} : bindP (andF p r) K = (p ∧ bindP r K) := by
  cases r with
  | none => simp [andF, bindP]
  | some x => simp [andF, bindP, and_assoc]
def eqneO (op : BinOp) (x : Option Bool) : Option (Prop × V) := match x with
  | some b => eqneF op b
  | none => none
def binF (k : TK) (op : BinOp) (x y : V) : Option (Prop × V) := match x with
  | .d (.agg as) => match y with
    | .d (.agg bs) => eqneO op (eqsK k as bs)
    | _ => none
  | .d (.val (.int k a)) => match y with
    | .d (.val (.int k' b)) => intF op k a k' b
    | _ => none
  | .d (.val (.string a)) => match y with
    | .d (.val (.string b)) => strF op a b
    | _ => none
  | .d (.val (.bool a)) => match y with
    | .d (.val (.bool b)) => andF (k.isBool = true) (eqneF op (a == b))
    | _ => none
  | .d (.val (.slice none 0 0)) => andF (nilV y = true ∧ k.isSl = true) (eqneF op true)
  | .d (.sl es) => andF (nilV y = true ∧ k.isSl = true ∧ 0 < es.length) (eqneF op false)
  | .msl _ _ len => andF (nilV y = true ∧ k.isSl = true ∧ 0 < len) (eqneF op false)
  | _ => none
theorem eqneK_F {op : BinOp} {t : Bool} {K : V → Prop} : eqneK op t K = bindP (eqneF op t) K := by
  cases op <;> simp [eqneK, eqneF, bindP]
theorem intK_F {op : BinOp} {k k' : IntKind} {a b : Int} {K : V → Prop} : intK op k a k' b K = bindP (intF op k a k' b) K := by
  cases op <;> simp [intK, intF, bindP, arith, and_assoc]
theorem strK_F {op : BinOp} {a b : ByteArray} {K : V → Prop} : strK op a b K = bindP (strF op a b) K := by
  cases op <;> simp [strK, strF, bindP, strOp]
theorem binK_F {k : TK} {op : BinOp} {x y : V} {K : V → Prop} : binK k op x y K = bindP (binF k op x y) K := by
  cases x with
  | d x =>
    cases x with
    | val v =>
      cases v with
      | int q a =>
        generalize y = y
        cases y with
        | d y =>
          cases y with
          | val v => cases v <;> first | rfl | (exact intK_F)
          | _ => first | rfl | (exact intK_F)
        | _ => first | rfl | (exact intK_F)
      | string a =>
        generalize y = y
        cases y with
        | d y =>
          cases y with
          | val v => cases v <;> first | rfl | (exact strK_F)
          | _ => first | rfl | (exact strK_F)
        | _ => first | rfl | (exact strK_F)
      | bool a =>
        generalize y = y
        cases y with
        | d y =>
          cases y with
          | val v => cases v <;> first | rfl | (simp only [binK, binF]; rw [bindP_and, eqneK_F])
          | _ => first | rfl | (simp only [binK, binF]; rw [bindP_and, eqneK_F])
        | _ => first | rfl | (simp only [binK, binF]; rw [bindP_and, eqneK_F])
      | slice A n m =>
        cases A with
        | none =>
          cases n with
          | zero =>
            cases m with
            | zero => simp only [binK, binF]; rw [bindP_and, eqneK_F, and_assoc]
            | succ => rfl
          | succ => rfl
        | some => rfl
      | _ => rfl
    | sl es => simp only [binK, binF]; rw [bindP_and, eqneK_F, and_assoc, and_assoc]
    | agg as =>
      cases y with
      | d y =>
        cases y with
        | agg bs =>
          simp only [binK, binF, optK, eqneO]
          cases eqsK k as bs with
          | none => rfl
          | some b => exact eqneK_F
        | _ => rfl
      | _ => rfl
    | _ => rfl
  | msl => simp only [binK, binF]; rw [bindP_and, eqneK_F, and_assoc, and_assoc]
  | _ => rfl

def arrF (es : List D) (e j n : Nat) (i : TI) : Option (Prop × V) := some (e < es.length ∧ j + n ≤ (gd es e).cells.length, .d (dOfCells i.agg ((gd es e).cells.drop j) i.size))
def treeF (es : List V) (e j n : Nat) (i : TI) : Option (Prop × V) := some (e < es.length ∧ j + n ≤ (gv es e).cells.length ∧ (((gv es e).cells.drop j).take n).all V.lo = true, ofCells i.agg ((gv es e).cells.drop j) i.size)
def loadF (i : TI) (os : List Ob) (a : V) : Option (Prop × V) := match a with
  | .ref o e j => match os[o]? with
    | some (.var cs _) => some (e = 0 ∧ j + (bif i.agg then i.size else 1) ≤ cs.length, ofCells i.agg (cs.drop j) i.size)
    | some (.arr _ es _) => arrF es e j (bif i.agg then i.size else 1) i
    | some (.tree _ es) => treeF es e j (bif i.agg then i.size else 1) i
    | _ => none
  | .d (.ptr cs) => some ((bif i.agg then i.size else 1) ≤ cs.length, .d (dOfCells i.agg cs i.size))
  | _ => none
theorem loadK_F {i : TI} {a : V} {K : V → Prop} : loadK i ⟨env, os⟩ a K = bindP (loadF i os a) K := by
  unfold loadK loadF
  cases a with
  | ref o e j =>
    simp only
    generalize os[o]? = y
    rcases y with _ | ⟨_, _⟩ | ⟨_, _, _⟩ | _ | ⟨_, _⟩ <;> simp [bindP, arrF, treeF, and_assoc]
  | d x => cases x <;> rfl
  | _ => rfl

def arrG (P : Prop) (es : List D) (e j n : Nat) (ds : List D) (F : List D → List Ob) : Option (Prop × V × List Ob) := some (P ∧ e < es.length ∧ j + n ≤ (gd es e).cells.length, .any, F (es.set e (setElem (gd es e) j ds)))
def treeG (es : List V) (e j n : Nat) (xs : List V) (F : List V → List Ob) : Option (Prop × V × List Ob) := some ((xs.length = n ∧ xs.all V.one = true) ∧ xs.all V.lo = true ∧ e < es.length ∧ j + n ≤ (gv es e).cells.length ∧ 0 < n, .any, F (es.set e (setV (gv es e) j xs)))
def storeF (i : TI) (os : List Ob) (a x : V) : Option (Prop × V × List Ob) := match a with
  | .ref o e j => match os[o]? with
    | some (.var cs false) => some ((x.cells.length = i.size ∧ x.cells.all V.one = true) ∧ e = 0 ∧ j + i.size ≤ cs.length, .any, os.set o (.var (setRange cs j x.cells) false))
    | some (.arr sz es false) => match mapL (leaf1 os) x.cells with
      | some (ds, l) => arrG ((x.cells.length = i.size ∧ x.cells.all V.one = true) ∧ l.contains o = false ∧ 0 < i.size) es e j i.size ds fun es' => (freeze os l).set o (.arr sz es' false)
      | none => none
    | some (.tree sz es) => treeG es e j i.size x.cells fun es' => os.set o (.tree sz es')
    | _ => none
  | _ => none
theorem storeK_F {i : TI} {a x : V} : storeK i ⟨env, os⟩ a x K = bindO (storeF i os a x) fun _ os => K ⟨env, os⟩ := by
  unfold storeK storeF
  cases a with
  | ref o e j =>
    simp only
    generalize os[o]? = y
    rcases y with _ | ⟨_, _ | _⟩ | ⟨_, _, _ | _⟩ | _ | ⟨_, _⟩
    · simp [bindO]
    · simp [bindO, and_assoc]
    · simp [bindO]
    · simp only
      generalize mapL (leaf1 os) x.cells = z
      cases z with
      | none => simp [bindO]
      | some z =>
        simp only [bindO, arrG, eq_iff_iff]
        exact ⟨fun ⟨a, b, c, d, e, f, g⟩ => ⟨⟨⟨⟨a, b⟩, e, f⟩, c, d⟩, g⟩, fun ⟨⟨⟨⟨a, b⟩, e, f⟩, c, d⟩, g⟩ => ⟨a, b, c, d, e, f, g⟩⟩
    · simp [bindO]
    · simp [bindO]
    · simp [bindO, treeG, and_assoc]
  | _ => simp [bindO]

def alF (os : List Ob) (i : Option TI) : Option (Prop × V × List Ob) := match i with
  | some i => some (True, .ref os.length 0 0, os ++ [.var (zV i.zero) false])
  | none => none
def ldF (os : List Ob) (i : Option TI) (a : V) : Option (Prop × V) := match i with
  | some i => loadF i os a
  | none => none
def stF (os : List Ob) (i : Option TI) (a x : V) : Option (Prop × V × List Ob) := match i with
  | some i => storeF i os a x
  | none => none
def faF (k : TK) (x : V) (f : Nat) : Option (Prop × V) := match k with
  | .st fs => match fs[f]?, x with
    | some (off, n, _), .ref o i j => some (0 < n, .ref o i (j + off))
    | some (off, n, _), .d (.ptr cs) => some (0 < n, .d (.ptr (cs.drop off)))
    | _, _ => none
  | _ => none
def fdF (k : TK) (x : V) (f : Nat) : Option (Prop × V) := match k with
  | .st fs => match fs[f]? with
    | some (off, n, g) => some (off + n ≤ x.cells.length ∧ (g = true ∨ n = 1) ∧ x.isAgg = true, ofCells g (x.cells.drop off) n)
    | none => none
  | _ => none
def indexF (n : Nat) (os : List Ob) (x : V) (ix : Int) : Option (Prop × V) := match x with
  | .msl o off len => some (0 ≤ ix ∧ ix < len ∧ sizeIs os o n, .ref o (off + ix.toNat) 0)
  | .d (.sl es) => some (0 ≤ ix ∧ ix < es.length ∧ (gd es ix.toNat).cells.length = n, .d (.ptr (gd es ix.toNat).cells))
  | _ => none
theorem indexK_F {n : Nat} {x : V} {ix : Int} {K : V → Prop} : indexK n os x ix K = bindP (indexF n os x ix) K := by
  unfold indexK indexF
  split <;> simp [bindP, and_assoc]
def iaF (T : Tab) (k : TK) (os : List Ob) (x ix : V) : Option (Prop × V) := match k, vint ix with
  | .sl e, some n => match ti T e with
    | some i => indexF i.size os x n
    | none => none
  | _, _ => none
def ixF (k : TK) (x ix : V) : Option (Prop × V) := match k, x, vint ix with
  | .str, .d (.val (.string s)), some n => some (0 ≤ n ∧ n < s.size, .d (.val (.int .u8 (s.data.toList.getD n.toNat 0).toNat)))
  | _, _, _ => none
def exF (x : V) (i : Nat) : Option (Prop × V) := match x with
  | .tup vs => some (i < vs.length, (vs[i]?).getD .any)
  | _ => none
def lenF (k : TK) (x : V) : Option (Prop × V) := match k, x with
  | .str, .d (.val (.string s)) => some (True, .d (.val (.int .i64 s.size)))
  | .sl _, .d (.sl es) => some (True, .d (.val (.int .i64 es.length)))
  | .sl _, .d (.val (.slice none 0 0)) => some (True, .d (.val (.int .i64 0)))
  | .sl _, .msl _ _ len => some (True, .d (.val (.int .i64 len)))
  | _, _ => none
def minF (x y : V) : Option (Prop × V) := match x, y with
  | .d (.val (.int k a)), .d (.val (.int _ b)) => some (True, .d (.val (.int k (if b < a then b else a))))
  | _, _ => none
def maxF (x y : V) : Option (Prop × V) := match x, y with
  | .d (.val (.int k a)), .d (.val (.int _ b)) => some (True, .d (.val (.int k (if a < b then b else a))))
  | _, _ => none
def notF (x : V) : Option (Prop × V) := match x with
  | .d (.val (.bool b)) => some (True, .d (.val (.bool !b)))
  | _ => none
def negF (x : V) : Option (Prop × V) := match x with
  | .d (.val (.int k n)) => some (True, .d (.val (.int k (k.wrap (0 - n)))))
  | _ => none
def bnF (r : Option (List Int)) : Option (Prop × V) := match r with
  | some ns => some (True, .d (.val (.string (strB ns))))
  | none => none
def byF (e : TK) (es : Option (List D)) : Option (Prop × V) := match e, es with
  | .int .u8, some l => bnF (numsL l)
  | _, _ => none
theorem bytesK_F {e : TK} {es : Option (List D)} {KV : V → Prop} : bytesK e es KV = bindP (byF e es) KV := by
  unfold bytesK byF
  split
  · rename_i l
    simp only
    cases numsL l <;> simp [bnF, bindP]
  · rename_i hne
    split
    · rename_i l; exact absurd rfl (fun e => hne _ rfl e)
    · rfl
def cvF (T : Tab) (os : List Ob) (s t : TK) (x : V) : Option (Prop × V) := match s, t, x with
  | .int _, .int k, .d (.val (.int _ n)) => some (True, .d (.val (.int k (k.wrap n))))
  | .str, .str, .d (.val (.string a)) => some (True, .d (.val (.string a)))
  | .sl e, .str, x => byF (tk T e) (elems os x)
  | _, _, _ => none
def mkAggF (r : Option (List V)) : Option (Prop × V) := match r with
  | some cs => some (True, mkAgg cs)
  | none => none
def bdF (i : Option TI) (parts : List (Nat × V)) : Option (Prop × V) := match i with
  | some i => match i.k with
    | .st fs => mkAggF (fillCells (fieldAt fs) (zV i.zero) parts)
    | _ => none
  | none => none
def bsG (os : List Ob) (len : Nat) (i : TI) (r : Option (List D × List Nat)) : Option (Prop × V × List Ob) := match r with
  | some (ds, l) => some (len * i.size ≤ 16777216 ∧ 0 < i.size, .msl os.length 0 len, freeze os l ++ [.arr i.size (chunk i.agg i.size len ds) false])
  | none => none
def bsH (os : List Ob) (len : Nat) (i : TI) (r : Option (List V)) : Option (Prop × V × List Ob) := match r with
  | some cs => bsG os len i (mapL (leaf1 os) cs)
  | none => none
def bsF (os : List Ob) (len : Nat) (i : Option TI) (parts : List (Nat × V)) : Option (Prop × V × List Ob) := match i with
  | some i => bsH os len i (fillCells (fun j => some (j * i.size, i.size)) (zVn (zV i.zero) len) parts)
  | none => none
def msF (os : List Ob) (i : Option TI) (l c : V) : Option (Prop × V × List Ob) := match i, l, c with
  | some i, .d (.val (.int _ n)), .d (.val (.int _ m)) => some (0 ≤ n ∧ n ≤ m ∧ (i.bytes : Int) * m ≤ 140737488355328 ∧ m ≤ 9223372036854775807 ∧ 0 < i.size,
      .msl os.length 0 (List.replicate n.toNat (zeroD i)).length, os ++ [.arr i.size (List.replicate n.toNat (zeroD i)) false])
  | _, _, _ => none
/-- The element's type of a slice's. -/
def elT (T : Tab) (k : TK) : Option TI := match k with
  | .sl e => ti T e
  | _ => none
def bdsF (n : Nat) (lo hi : Option V) (F : Nat → Nat → Option (Prop × V)) : Option (Prop × V) := match bnd 0 lo, bnd n hi with
  | some l, some h => andF (0 ≤ l ∧ l ≤ h ∧ h ≤ n) (F l.toNat h.toNat)
  | _, _ => none
def sliceF (n : Nat) (os : List Ob) (x : V) (lo hi : Option V) : Option (Prop × V) := match x with
  | .d (.sl es) => bdsF es.length lo hi fun l h => some (l = h ∨ (gd es l).cells.length = n, .d (.sl ((es.drop l).take (h - l))))
  | .d (.val (.slice none 0 0)) => bdsF 0 lo hi fun _ _ => some (True, .d .nil)
  | .msl o off len => bdsF len lo hi fun l h => some (sizeIs os o n, .msl o (off + l) (h - l))
  | _ => none
theorem bdsF_K {n : Nat} {lo hi : Option V} {F : Nat → Nat → Option (Prop × V)} {G : Nat → Nat → Prop} {K : V → Prop} (h : ∀ a b, G a b = bindP (F a b) K) : boundsK n lo hi G = bindP (bdsF n lo hi F) K := by
  unfold boundsK bdsF
  generalize bnd 0 lo = x
  generalize bnd (n : Int) hi = y
  cases x with
  | none => rfl
  | some x =>
    cases y with
    | none => rfl
    | some y => simp only; rw [bindP_and, h, and_assoc, and_assoc]
theorem sliceK_F {n : Nat} {x : V} {lo hi : Option V} {K : V → Prop} : sliceK n os x lo hi K = bindP (sliceF n os x lo hi) K := by
  cases x with
  | d x =>
    cases x with
    | val v =>
      cases v with
      | slice A n m =>
        cases A with
        | none =>
          cases n with
          | zero =>
            cases m with
            | zero => exact bdsF_K (F := fun _ _ => some (True, .d .nil)) (G := fun _ _ => K (.d .nil)) fun a b => bindP_t.symm
            | succ => rfl
          | succ => rfl
        | some => rfl
      | _ => rfl
    | sl es => exact bdsF_K (F := fun l h => some (l = h ∨ (gd es l).cells.length = n, .d (.sl ((es.drop l).take (h - l))))) fun a b => rfl
    | _ => rfl
  | msl o off len => exact bdsF_K (F := fun l h => some (sizeIs os o n, .msl o (off + l) (h - l))) fun a b => rfl
  | _ => rfl
def strSlF (x : V) (lo hi : Option V) : Option (Prop × V) := match x with
  | .d (.val (.string s)) => bdsF s.size lo hi fun l h => some (True, .d (.val (.string (s.extract l h))))
  | _ => none
theorem strSlK_F {x : V} {lo hi : Option V} {K : V → Prop} : sliceStrK x lo hi K = bindP (strSlF x lo hi) K := by
  generalize x = x
  cases x with
  | d x =>
    cases x with
    | val v => cases v <;> first | rfl | (rename_i t; exact bdsF_K (F := fun l h => some (True, .d (.val (.string (t.extract l h))))) (G := fun l h => K (.d (.val (.string (t.extract l h))))) fun a b => bindP_t.symm)
    | _ => first | rfl | (rename_i t; exact bdsF_K (F := fun l h => some (True, .d (.val (.string (t.extract l h))))) (G := fun l h => K (.d (.val (.string (t.extract l h))))) fun a b => bindP_t.symm)
  | _ => first | rfl | (rename_i t; exact bdsF_K (F := fun l h => some (True, .d (.val (.string (t.extract l h))))) (G := fun l h => K (.d (.val (.string (t.extract l h))))) fun a b => bindP_t.symm)
def slF (T : Tab) (k : TK) (os : List Ob) (x : V) (lo hi : Option V) : Option (Prop × V) := match k with
  | .str => strSlF x lo hi
  | .sl e => match ti T e with
    | some i => sliceF i.size os x lo hi
    | none => none
  | _ => none

/-- New elements fit an array. -/
def newsOk (n : Nat) (l : List D) : Prop := ∀ e ∈ l, e.cells.length = n ∧ ∀ c ∈ e.cells, c.one = true
def killV (o : Nat) : List V → List V
  | [] => []
  | x :: r => PL.kill o x :: killV o r
theorem killV_eq {o : Nat} : ∀ {l : List V}, killV o l = l.map (PL.kill o)
  | [] => rfl
  | x :: r => by rw [killV, killV_eq (l := r)]; rfl
def killE (o : Nat) : List (Nat × V) → List (Nat × V)
  | [] => []
  | x :: r => (x.1, PL.kill o x.2) :: killE o r
def killO (o : Nat) : List Ob → List Ob
  | [] => []
  | x :: r => x.kill o :: killO o r
theorem killE_eq {o : Nat} : ∀ {l : List (Nat × V)}, killE o l = l.map fun x => (x.1, PL.kill o x.2)
  | [] => rfl
  | x :: r => by rw [killE, killE_eq (l := r)]; rfl
theorem killO_eq {o : Nat} : ∀ {l : List Ob}, killO o l = l.map (Ob.kill o)
  | [] => rfl
  | x :: r => by rw [killO, killO_eq (l := r)]; rfl
def apM (nF : Nat) (ti : TI) (env : List (Nat × V)) (os : List Ob) (o len : Nat) (news : List D) (ob : Option Ob) : Option (Prop × V × List (Nat × V) × List Ob) := match ob with
  | some (.arr sz es fz) => some (newsOk ti.size news ∧ 0 < ti.size ∧ nF ≤ o ∧ sz = ti.size ∧ len = es.length ∧ (es ++ news).length * ti.bytes ≤ 140737488355328 ∧ (es ++ news).length ≤ 9223372036854775807,
      .msl o 0 (es ++ news).length, killE o env, (killO o os).set o (.arr sz (es ++ news) fz))
  | _ => none
def apF (nF : Nat) (i : Option TI) (env : List (Nat × V)) (os : List Ob) (s : V) (news : Option (List D)) : Option (Prop × V × List (Nat × V) × List Ob) := match i, news, s with
  | some ti, some news, .msl o 0 len => apM nF ti env os o len news os[o]?
  | some ti, some [], .d (.val (.slice none 0 0)) => some (0 < ti.size, .d .nil, env, os)
  | some ti, some (x :: r), .d (.val (.slice none 0 0)) => some (newsOk ti.size (x :: r) ∧ 0 < ti.size ∧ (x :: r).length * ti.bytes ≤ 140737488355328 ∧ (x :: r).length ≤ 9223372036854775807,
      .msl os.length 0 (x :: r).length, env, os ++ [.arr ti.size (x :: r) false])
  | _, _, _ => none
theorem appendK_F {ti : TI} {s : V} {news : List D} {KV : V → St → Prop} (h : bindA (apF nF (some ti) env os s (some news)) fun v env os => KV v ⟨env, os⟩) : appendK nF ti ⟨env, os⟩ s news KV := by
  unfold apF at h
  split at h
  · rename_i ti' news' o len e1 e2
    cases e1; cases e2
    rw [appendK_msl]
    unfold apM at h
    split at h
    · rename_i sz es fz he
      obtain ⟨⟨h1, h2, h3, h4, rfl, h6, h7⟩, h8⟩ := h
      rw [he]
      simp only [List.length_append] at h6 h7 h8
      rw [killE_eq, killO_eq] at h8
      exact ⟨h1, h2, h3, h4, rfl, h6, h7, h8⟩
    · exact h.elim
  · rename_i ti' e1 e2
    cases e1; cases e2
    rw [appendK_nil]
    exact ⟨(fun e he => nomatch he), h.1, fun _ => h.2, fun h => absurd rfl h⟩
  · rename_i ti' x r e1 e2
    cases e1; cases e2
    rw [appendK_nil]
    exact ⟨h.1.1, h.1.2.1, (fun h => nomatch h), fun _ => ⟨h.1.2.2.1, h.1.2.2.2, h.2⟩⟩
  · exact h.elim

section
variable {d : Tmp}
theorem r1_call {f : Operand} {args : List Operand} {ats : Array TypeId} : op1R T C nF (some d) (.call { callee := .value f, args := args.toArray, argTypes := ats }) ⟨env, os⟩ K =
    callR C (calleeR (ev env f) (evL env args)) os (fun v os' => K ⟨(d, v) :: env, os'⟩) := by
  show calleeK ⟨env, os⟩ f args.toArray.toList (fun n vs => callK C ⟨env, os⟩ n vs fun v s => K (s.put (some d) v)) = _
  unfold calleeK calleeR
  simp only [evL_eq, dV_eq]
  cases ev env f with
  | d x =>
    cases x with
    | fn f a b => cases f <;> rfl
    | _ => rfl
  | fn f a b => cases f <;> rfl
  | _ => rfl
theorem r1_call0 {f : Operand} {args : List Operand} {ats : Array TypeId} : op1R T C nF none (.call { callee := .value f, args := args.toArray, argTypes := ats }) ⟨env, os⟩ K =
    callR C (calleeR (ev env f) (evL env args)) os (fun _ os' => K ⟨env, os'⟩) := by
  show calleeK ⟨env, os⟩ f args.toArray.toList (fun n vs => callK C ⟨env, os⟩ n vs fun v s => K (s.put none v)) = _
  unfold calleeK calleeR
  simp only [evL_eq, dV_eq]
  cases ev env f with
  | d x =>
    cases x with
    | fn f a b => cases f <;> rfl
    | _ => rfl
  | fn f a b => cases f <;> rfl
  | _ => rfl
theorem rq_call {f : Operand} {args : List Operand} {ats : Array TypeId} : q1R T C nF (some d) (.call { callee := .value f, args := args.toArray, argTypes := ats }) ⟨env, os⟩ K =
    callQ C (calleeR (ev env f) (evL env args)) os (fun v => K ⟨(d, v) :: env, os⟩) := by
  show calleeK ⟨env, os⟩ f args.toArray.toList (fun n vs => quietCall C ⟨env, os⟩ n vs fun v => K (St.put ⟨env, os⟩ (some d) v)) = _
  unfold calleeK calleeR
  simp only [evL_eq, dV_eq]
  cases ev env f with
  | d x =>
    cases x with
    | fn f a b => cases f <;> rfl
    | _ => rfl
  | fn f a b => cases f <;> rfl
  | _ => rfl
theorem r1_callE {f : Operand} {args : List Operand} {ats : Array TypeId} {n : FuncId} {vs us : List V} {ds : List D} {l : List Nat} (hf : calleeR (ev env f) (evL env args) = some (n, vs)) (hl : mapL (leaf os) vs = some (ds, l)) (hv : dV ds = us)
    (h : pcD C n us l os (fun v os' => K ⟨(d, v) :: env, os'⟩)) : op1R T C nF (some d) (.call { callee := .value f, args := args.toArray, argTypes := ats }) ⟨env, os⟩ K := by
  rw [r1_call, hf]; refine callR_pure ?_; rw [hl, pc_some, hv]; exact h
theorem r1_call0E {f : Operand} {args : List Operand} {ats : Array TypeId} {n : FuncId} {vs us : List V} {ds : List D} {l : List Nat} (hf : calleeR (ev env f) (evL env args) = some (n, vs)) (hl : mapL (leaf os) vs = some (ds, l)) (hv : dV ds = us)
    (h : pcD C n us l os (fun _ os' => K ⟨env, os'⟩)) : op1R T C nF none (.call { callee := .value f, args := args.toArray, argTypes := ats }) ⟨env, os⟩ K := by
  rw [r1_call0, hf]; refine callR_pure ?_; rw [hl, pc_some, hv]; exact h
theorem rq_callE {f : Operand} {args : List Operand} {ats : Array TypeId} {n : FuncId} {vs us : List V} {ds : List D} {l : List Nat} (hf : calleeR (ev env f) (evL env args) = some (n, vs)) (hl : mapL (leaf os) vs = some (ds, l)) (hv : dV ds = us)
    (h : pcDQ C n us l (fun v => K ⟨(d, v) :: env, os⟩)) : q1R T C nF (some d) (.call { callee := .value f, args := args.toArray, argTypes := ats }) ⟨env, os⟩ K := by
  rw [rq_call, hf]; refine callQ_pure ?_; rw [hl, pcQ_some, hv]; exact h
theorem opsR_g {d : Option Tmp} {op : Op} {r : List RO} {t : Tmp} {w : Bool} {v : V} (h : look env t = v) (h2 : gcase v w (op1R T C nF d op ⟨env, os⟩ (fun s => opsR T C nF r s K)) (opsR T C nF r (St.put ⟨env, os⟩ d undefV) K)) :
    opsR T C nF (⟨d, op, some (some t, w)⟩ :: r) ⟨env, os⟩ K := by subst h; exact h2
theorem qR_g {n : Nat} {d : Option Tmp} {op : Op} {r : List RO} {t : Tmp} {w : Bool} {v : V} (h : look env t = v) (h2 : gcase v w (q1R T C nF d op ⟨env, os⟩ (fun s => qR T C nF n r s K)) (qR T C nF n r (St.put ⟨env, os⟩ d undefV) K)) :
    qR T C nF (n + 1) (⟨d, op, some (some t, w)⟩ :: r) ⟨env, os⟩ K := by subst h; exact h2
theorem Wp.condE {c : Operand} {a b : Code} {v : V} (h : ev env c = v) (h2 : bcase v (Wp T C nF a ⟨env, os⟩ Q) (Wp T C nF b ⟨env, os⟩ Q)) : Wp T C nF (.cond c a b) ⟨env, os⟩ Q := .condR (h ▸ h2)
theorem gcaseTT {A B : Prop} (h : A) : gcase (.d (.val (.bool true))) true A B := by rw [gcase_tt]; exact h
theorem gcaseTF {A B : Prop} (h : B) : gcase (.d (.val (.bool true))) false A B := by rw [gcase_tf]; exact h
theorem gcaseFT {A B : Prop} (h : B) : gcase (.d (.val (.bool false))) true A B := by rw [gcase_ft]; exact h
theorem gcaseFF {A B : Prop} (h : A) : gcase (.d (.val (.bool false))) false A B := by rw [gcase_ff]; exact h
theorem gcaseU {w : Bool} {A B : Prop} (h : B) : gcase undefV w A B := h
theorem bcaseT {A B : Prop} (h : A) : bcase (.d (.val (.bool true))) A B := by rw [bcase_t]; exact h
theorem bcaseF {A B : Prop} (h : B) : bcase (.d (.val (.bool false))) A B := by rw [bcase_f]; exact h
theorem r1_move {x : Operand} : op1R T C nF (some d) (.move x) ⟨env, os⟩ K = bindP (some (True, ev env x)) fun v => K ⟨(d, v) :: env, os⟩ := by rw [bindP_t]; rfl
theorem r1_assign {x : Operand} : op1R T C nF (some d) (.assign x) ⟨env, os⟩ K = bindP (some (True, ev env x)) fun v => K ⟨(d, v) :: env, os⟩ := by rw [bindP_t]; rfl
theorem r1_pick {c a b : Operand} : op1R T C nF (some d) (.pick c a b) ⟨env, os⟩ K = bindP (pickF (ev env c) (ev env a) (ev env b)) fun v => K ⟨(d, v) :: env, os⟩ := by
  unfold op1R; rw [op1_pick]; unfold pickF
  generalize ev env c = x
  cases x with
  | d x =>
    cases x with
    | val v => cases v <;> first | rfl | (simp only [bindP_t]; rfl)
    | _ => first | rfl | (simp only [bindP_t]; rfl)
  | _ => first | rfl | (simp only [bindP_t]; rfl)
theorem r1_alloc {t : TypeId} : op1R T C nF (some d) (.alloc t) ⟨env, os⟩ K = bindO (alF os (ti T t)) fun v os => K ⟨(d, v) :: env, os⟩ := by
  unfold op1R; rw [op1_alloc]; unfold alF
  cases ti T t with
  | none => rfl
  | some i => simp only [bindO, true_and, zV_eq]; rfl
theorem r1_box {t : TypeId} {x : Operand} : op1R T C nF (some d) (.box t x) ⟨env, os⟩ K = bindO (some ((ev env x).cells.all V.one = true, .ref os.length 0 0, os ++ [.var (ev env x).cells false])) fun v os => K ⟨(d, v) :: env, os⟩ := rfl
theorem r1_load {t : TypeId} {x : Operand} : op1R T C nF (some d) (.load t x) ⟨env, os⟩ K = bindP (ldF os (ti T t) (evg T env x)) fun v => K ⟨(d, v) :: env, os⟩ := by
  unfold op1R; rw [op1_load]; unfold ldF
  cases ti T t with
  | none => rfl
  | some i => exact loadK_F
theorem evg_tmp {t : Tmp} : evg T env (.tmp t) = look env t := rfl
theorem evg_const {v : Value} : evg T env (.const v) = ev env (.const v) := rfl
theorem r1_store {t : TypeId} {a x : Operand} : op1R T C nF none (.store t a x) ⟨env, os⟩ K = bindO (stF os (ti T t) (ev env a) (ev env x)) fun _ os => K ⟨env, os⟩ := by
  unfold op1R; rw [op1_store]; unfold stF
  cases ti T t with
  | none => rfl
  | some i => exact storeK_F
theorem r1_nilCheck {x : Operand} : op1R T C nF (some d) (.nilCheck x) ⟨env, os⟩ K = bindP (nilF (ev env x)) fun v => K ⟨(d, v) :: env, os⟩ := by
  unfold op1R; rw [op1_nilCheck]; unfold nilF
  cases ev env x with
  | d x =>
    cases x with
    | fn f a b => cases f <;> first | rfl | (simp [bindP, St.put]; done)
    | _ => first | rfl | (simp [bindP, St.put]; done)
  | fn f a b => cases f <;> first | rfl | (simp [bindP, St.put]; done)
  | _ => first | rfl | (simp [bindP, St.put]; done)
def binR (k k2 : TK) (op : BinOp) (x y : V) (K : V → Prop) : Prop := bindP (binF k op x y) K ∨ nilT k2 op x y K
@[congr] theorem binR_congr {k k' j j' : TK} {op : BinOp} {x x' y y' : V} {K : V → Prop} (h1 : k = k') (h0 : j = j') (h2 : x = x') (h3 : y = y') : binR k j op x y K = binR k' j' op x' y' K := by rw [h1, h0, h2, h3]
def nilB (op : BinOp) (n : Nat) (K : V → Prop) : Prop := ∀ b : Bool, (0 < n → b = false) → bindP (eqneF op b) K
theorem nilB_i {op : BinOp} {n : Nat} {K : V → Prop} (h : ∀ b : Bool, (0 < n → b = false) → bindP (eqneF op b) K) : nilB op n K := h
theorem nilB_pos {op : BinOp} {n : Nat} {K : V → Prop} (hn : 0 < n) (h : bindP (eqneF op false) K) : nilB op n K := fun b hb => by rw [hb hn]; exact h
theorem binR_agg {k j : TK} {op : BinOp} {as bs : List D} {K : V → Prop} : binR k j op (.d (.agg as)) (.d (.agg bs)) K = bindP (eqneO op (eqsK k as bs)) K := by simp [binR, nilT, slLen, binF]
theorem binR_int {k j : TK} {op : BinOp} {q q' : IntKind} {a b : Int} {K : V → Prop} : binR k j op (.d (.val (.int q a))) (.d (.val (.int q' b))) K = bindP (intF op q a q' b) K := by simp [binR, nilT, slLen, binF]
theorem binR_str {k j : TK} {op : BinOp} {a b : ByteArray} {K : V → Prop} : binR k j op (.d (.val (.string a))) (.d (.val (.string b))) K = bindP (strF op a b) K := by simp [binR, nilT, slLen, binF]
theorem binR_bool {k j : TK} {op : BinOp} {a b : Bool} {K : V → Prop} : binR k j op (.d (.val (.bool a))) (.d (.val (.bool b))) K = bindP (andF (k.isBool = true) (eqneF op (a == b))) K := by simp [binR, nilT, slLen, binF]
theorem binR_nil {k j : TK} {op : BinOp} {y : V} {K : V → Prop} : binR k j op (.d (.val (.slice none 0 0))) y K = bindP (andF (nilV y = true ∧ k.isSl = true) (eqneF op true)) K := by simp [binR, nilT, slLen, binF]
theorem binR_slen {k : TK} {op : BinOp} {x y : V} {n : Nat} {K : V → Prop} (h : slLen x = some n) (hb : binF k op x y = andF (nilV y = true ∧ k.isSl = true ∧ 0 < n) (eqneF op false)) : binR k k op x y K = (nilV y = true ∧ k.isSl = true ∧ nilB op n K) := by
  simp only [binR, hb, bindP_and, eq_iff_iff]
  constructor
  · rintro (⟨⟨h1, h2, h3⟩, h4⟩ | ⟨m, h1, h2, h3, h4⟩)
    · exact ⟨h1, h2, fun b hb => by rw [hb h3]; exact h4⟩
    · rw [h] at h1; cases h1
      exact ⟨h2, h3, fun b hb => by rw [← eqneK_F]; exact h4 b hb⟩
  · rintro ⟨h1, h2, h3⟩
    exact .inr ⟨n, h, h1, h2, fun b hb => by rw [eqneK_F]; exact h3 b hb⟩
theorem binR_sl {k : TK} {op : BinOp} {y : V} {es : List D} {K : V → Prop} : binR k k op (.d (.sl es)) y K = (nilV y = true ∧ k.isSl = true ∧ nilB op es.length K) := binR_slen rfl rfl
theorem binR_msl {k : TK} {op : BinOp} {y : V} {o a len : Nat} {K : V → Prop} : binR k k op (.msl o a len) y K = (nilV y = true ∧ k.isSl = true ∧ nilB op len K) := binR_slen rfl rfl
theorem r1_bin {op : BinOp} {t t2 : TypeId} {x y : Operand} : op1R T C nF (some d) (.binOp op t x y t2) ⟨env, os⟩ K = binR (tkE T t) (tk T t) op (ev env x) (ev env y) fun v => K ⟨(d, v) :: env, os⟩ := by
  unfold op1R; rw [op1_bin, binK_F]; rfl
theorem r1_not {t : TypeId} {x : Operand} : op1R T C nF (some d) (.unOp .not t x) ⟨env, os⟩ K = bindP (notF (ev env x)) fun v => K ⟨(d, v) :: env, os⟩ := by
  unfold op1R; rw [op1_not]; unfold notF
  generalize ev env x = x
  cases x with
  | d x =>
    cases x with
    | val v => cases v <;> first | rfl | (simp [bindP, St.put, and_assoc]; done)
    | _ => first | rfl | (simp [bindP, St.put, and_assoc]; done)
  | _ => first | rfl | (simp [bindP, St.put, and_assoc]; done)
theorem r1_neg {t : TypeId} {x : Operand} : op1R T C nF (some d) (.unOp .neg t x) ⟨env, os⟩ K = bindP (negF (ev env x)) fun v => K ⟨(d, v) :: env, os⟩ := by
  unfold op1R; rw [op1_neg]; unfold negF
  generalize ev env x = x
  cases x with
  | d x =>
    cases x with
    | val v => cases v <;> first | rfl | (simp [bindP, St.put, and_assoc]; done)
    | _ => first | rfl | (simp [bindP, St.put, and_assoc]; done)
  | _ => first | rfl | (simp [bindP, St.put, and_assoc]; done)
theorem r1_fieldAddr {t : TypeId} {x : Operand} {f : Nat} : op1R T C nF (some d) (.fieldAddr t x f) ⟨env, os⟩ K = bindP (faF (tk T t) (ev env x) f) fun v => K ⟨(d, v) :: env, os⟩ := by
  unfold op1R; rw [op1_fieldAddr]; unfold faF
  cases tk T t <;> try rfl
  simp only
  generalize (_ : List (Nat × Nat × Bool))[f]? = y
  cases y with
  | none => rfl
  | some y => cases ev env x <;> try rfl
              rename_i x; cases x <;> rfl
theorem r1_field {t : TypeId} {x : Operand} {f : Nat} : op1R T C nF (some d) (.field t x f) ⟨env, os⟩ K = bindP (fdF (tk T t) (ev env x) f) fun v => K ⟨(d, v) :: env, os⟩ := by
  show opK T nF ⟨env, os⟩ (.field t x f) (fun v s => K (s.put (some d) v)) = _
  unfold fdF
  simp only [opK]
  cases tk T t <;> try rfl
  simp only
  generalize (_ : List (Nat × Nat × Bool))[f]? = y
  cases y with
  | none => rfl
  | some y => simp [bindP, and_assoc, St.put]
theorem r1_indexAddr {t : TypeId} {x ix : Operand} : op1R T C nF (some d) (.indexAddr t x ix) ⟨env, os⟩ K = bindP (iaF T (tk T t) os (ev env x) (ev env ix)) fun v => K ⟨(d, v) :: env, os⟩ := by
  unfold op1R; rw [op1_indexAddr]; unfold iaF
  cases tk T t <;> try rfl
  cases vint (ev env ix) <;> try rfl
  simp only
  cases ti T _ with
  | none => rfl
  | some i => exact indexK_F
theorem r1_index {t : TypeId} {x ix : Operand} : op1R T C nF (some d) (.index t x ix) ⟨env, os⟩ K = bindP (ixF (tk T t) (ev env x) (ev env ix)) fun v => K ⟨(d, v) :: env, os⟩ := by
  unfold op1R; rw [op1_index]; unfold ixF
  cases tk T t <;> try rfl
  generalize vint (ev env ix) = n
  generalize ev env x = x
  cases x with
  | d x =>
    cases x with
    | val v => cases v <;> first | rfl | (cases n <;> first | rfl | (simp [bindP, St.put, and_assoc]; done))
    | _ => first | rfl | (cases n <;> first | rfl | (simp [bindP, St.put, and_assoc]; done))
  | _ => first | rfl | (cases n <;> first | rfl | (simp [bindP, St.put, and_assoc]; done))
theorem r1_extract {x : Operand} {i : Nat} : op1R T C nF (some d) (.extract x i) ⟨env, os⟩ K = bindP (exF (ev env x) i) fun v => K ⟨(d, v) :: env, os⟩ := by
  unfold op1R; rw [op1_extract]; unfold exF
  cases ev env x <;> first | rfl | (simp [bindP, St.put]; done)
theorem r1_len {x : Operand} {t : TypeId} : op1R T C nF (some d) (.call { callee := .builtin .len, args := [x].toArray, argTypes := [t].toArray }) ⟨env, os⟩ K = bindP (lenF (tk T t) (ev env x)) fun v => K ⟨(d, v) :: env, os⟩ := by
  unfold op1R; rw [op1_len]; unfold lenF
  simp only
  generalize tk T t = k
  generalize ev env x = x
  cases k <;> try rfl
  · cases x with
    | d x => cases x with
      | val v => cases v <;> first | rfl | (simp [bindP, St.put]; done)
      | _ => rfl
    | _ => rfl
  · cases x with
    | d x => cases x with
      | val v =>
        cases v with
        | slice A n m =>
          cases A with
          | none => cases n with
            | zero => cases m <;> first | rfl | (simp [bindP, St.put]; done)
            | succ => rfl
          | some => rfl
        | _ => rfl
      | _ => first | rfl | (simp [bindP, St.put]; done)
    | _ => first | rfl | (simp [bindP, St.put]; done)
theorem r1_append {sx x : Operand} {t : TypeId} (h : bindA (apF nF (elT T (tk T t)) env os (ev env sx) (elems os (ev env x))) fun v env os => K ⟨(d, v) :: env, os⟩) : op1R T C nF (some d) (.call { callee := .builtin .append, args := [sx, x].toArray, argTypes := [t, t].toArray }) ⟨env, os⟩ K := by
  unfold op1R; apply op1_append
  simp only
  unfold elT at h
  generalize tk T t = k at *
  cases k with
  | sl e =>
    simp only at h ⊢
    cases hi : ti T e with
    | none => rw [hi] at h; unfold apF at h; cases h
    | some i =>
      rw [hi] at h
      cases he : elems os (ev env x) with
      | none => rw [he] at h; unfold apF at h; cases h
      | some news => rw [he] at h; simp only; rw [hi]; exact ⟨trivial, appendK_F h⟩
  | _ => unfold apF at h; cases h
/-- An append whose elements hold slices of their own. -/
def vnewsOk (n : Nat) : List V → Prop
  | [] => True
  | e :: r => (e.cells.length = n ∧ e.cells.all V.lo = true) ∧ vnewsOk n r
theorem vnewsOk_nil {n : Nat} : vnewsOk n [] = True := rfl
theorem vnewsOk_cons {n : Nat} {e : V} {r : List V} : vnewsOk n (e :: r) = ((e.cells.length = n ∧ e.cells.all V.lo = true) ∧ vnewsOk n r) := rfl
theorem vnewsOk_mem {n : Nat} : ∀ {l : List V}, vnewsOk n l → ∀ e ∈ l, e.cells.length = n ∧ e.cells.all V.lo = true
  | _ :: _, h, _, .head _ => h.1
  | _ :: _, h, _, .tail _ m => vnewsOk_mem h.2 _ m
def apTM (nF : Nat) (ti : TI) (env : List (Nat × V)) (os : List Ob) (o len : Nat) (news : List V) (ob : Option Ob) : Option (Prop × V × List (Nat × V) × List Ob) := match ob with
  | some (.tree sz es) => some (vnewsOk ti.size news ∧ 0 < ti.size ∧ 0 < news.length ∧ nF ≤ o ∧ sz = ti.size ∧ len = es.length ∧ (len + news.length) * ti.bytes ≤ 140737488355328 ∧ len + news.length ≤ 9223372036854775807,
      .msl o 0 (len + news.length), killE o env, (killO o os).set o (.tree sz (killV o (es ++ news))))
  | _ => none
def apT (nF : Nat) (i : Option TI) (env : List (Nat × V)) (os : List Ob) (s : V) (news : Option (List V)) : Option (Prop × V × List (Nat × V) × List Ob) := match i, news, s with
  | some ti, some news, .msl o 0 len => apTM nF ti env os o len news os[o]?
  | _, _, _ => none
theorem r1_appendT {sx x : Operand} {t : TypeId} (h : bindA (apT nF (elT T (tk T t)) env os (ev env sx) (telems os (ev env x))) fun v env os => K ⟨(d, v) :: env, os⟩) : op1R T C nF (some d) (.call { callee := .builtin .append, args := [sx, x].toArray, argTypes := [t, t].toArray }) ⟨env, os⟩ K := by
  unfold op1R; apply op1_appendT
  simp only [treeK]
  unfold elT at h
  generalize tk T t = k at *
  cases k with
  | sl e =>
    simp only at h ⊢
    cases hi : ti T e with
    | none => rw [hi] at h; unfold apT at h; cases h
    | some i =>
      rw [hi] at h
      cases he : telems os (ev env x) with
      | none => rw [he] at h; unfold apT at h; cases h
      | some news =>
        rw [he] at h; simp only; rw [hi]
        refine ⟨trivial, ?_⟩
        unfold apT at h
        split at h
        · rename_i ti' news' o len e1 e2 e3
          cases e1; cases e2
          unfold apTM at h
          split at h
          · rename_i sz es ho
            obtain ⟨⟨h1, h2, h3, h4, h5, h6, h7, h8⟩, h9⟩ := h
            unfold appendTK
            rw [e3]
            simp only [ho]
            rw [killE_eq, killO_eq, killV_eq] at h9
            exact ⟨vnewsOk_mem h1, h2, List.ne_nil_of_length_pos h3, h4, h5, h6, h7, h8, h9⟩
          · exact h.elim
        · exact h.elim
  | _ => unfold apT at h; cases h
theorem r1_min {x y : Operand} {ats : Array TypeId} : op1R T C nF (some d) (.call { callee := .builtin .min, args := [x, y].toArray, argTypes := ats }) ⟨env, os⟩ K = bindP (minF (ev env x) (ev env y)) fun v => K ⟨(d, v) :: env, os⟩ := by
  unfold op1R; rw [op1_min]; unfold minF
  simp only
  generalize ev env y = y
  generalize ev env x = x
  cases x with
  | d x =>
    cases x with
    | val v => cases v <;> first | rfl | ((cases y with | d y => (cases y with | val w => (cases w <;> first | rfl | (simp [bindP, St.put]; done)) | _ => rfl) | _ => rfl))
    | _ => first | rfl | ((cases y with | d y => (cases y with | val w => (cases w <;> first | rfl | (simp [bindP, St.put]; done)) | _ => rfl) | _ => rfl))
  | _ => first | rfl | ((cases y with | d y => (cases y with | val w => (cases w <;> first | rfl | (simp [bindP, St.put]; done)) | _ => rfl) | _ => rfl))
theorem r1_max {x y : Operand} {ats : Array TypeId} : op1R T C nF (some d) (.call { callee := .builtin .max, args := [x, y].toArray, argTypes := ats }) ⟨env, os⟩ K = bindP (maxF (ev env x) (ev env y)) fun v => K ⟨(d, v) :: env, os⟩ := by
  unfold op1R; rw [op1_max]; unfold maxF
  simp only
  generalize ev env y = y
  generalize ev env x = x
  cases x with
  | d x =>
    cases x with
    | val v => cases v <;> first | rfl | ((cases y with | d y => (cases y with | val w => (cases w <;> first | rfl | (simp [bindP, St.put]; done)) | _ => rfl) | _ => rfl))
    | _ => first | rfl | ((cases y with | d y => (cases y with | val w => (cases w <;> first | rfl | (simp [bindP, St.put]; done)) | _ => rfl) | _ => rfl))
  | _ => first | rfl | ((cases y with | d y => (cases y with | val w => (cases w <;> first | rfl | (simp [bindP, St.put]; done)) | _ => rfl) | _ => rfl))
theorem r1_build {t : TypeId} {parts : List (Nat × Operand)} : op1R T C nF (some d) (.build t parts.toArray) ⟨env, os⟩ K = bindP (bdF (ti T t) (evP env parts)) fun v => K ⟨(d, v) :: env, os⟩ := by
  unfold op1R; rw [op1_build]; unfold bdF mkAggF
  simp only [evP_eq, zV_eq]
  cases ti T t with
  | none => rfl
  | some i =>
    simp only
    cases i.k <;> try rfl
    simp only
    generalize fillCells _ _ _ = y
    cases y with
    | none => rfl
    | some y => simp [bindP, St.put]
theorem r1_buildSlice {t : TypeId} {len : Nat} {parts : List (Nat × Operand)} (h : bindO (bsF os len (elT T (tk T t)) (evP env parts)) fun v os => K ⟨(d, v) :: env, os⟩) : op1R T C nF (some d) (.buildSlice t len parts.toArray) ⟨env, os⟩ K := by
  unfold op1R; apply op1_buildSlice; revert h; unfold bsF bsH bsG elT
  simp only [evP_eq, zV_eq, zVn_eq]
  cases tk T t <;> try exact id
  simp only
  cases ti T _ with
  | none => exact id
  | some i =>
    simp only
    generalize fillCells _ _ _ = y
    cases y with
    | none => exact id
    | some y =>
      simp only
      generalize mapL (leaf1 os) y = z
      cases z with
      | none => exact id
      | some z => simp [bindO, St.put, and_assoc]
def btG (os : List Ob) (len : Nat) (i : TI) (r : Option (List V)) : Option (Prop × V × List Ob) := match r with
  | some cs => some (cs.all V.lo = true ∧ len * i.size ≤ 16777216 ∧ 0 < i.size, .msl os.length 0 len, os ++ [.tree i.size (vchunk i.agg i.size len cs)])
  | none => none
def btF (os : List Ob) (len : Nat) (i : Option TI) (parts : List (Nat × V)) : Option (Prop × V × List Ob) := match i with
  | some i => btG os len i (fillCells (fun j => some (j * i.size, i.size)) (zVn (zV i.zero) len) parts)
  | none => none
theorem r1_buildSliceT {t : TypeId} {len : Nat} {parts : List (Nat × Operand)} (h : bindO (btF os len (elT T (tk T t)) (evP env parts)) fun v os => K ⟨(d, v) :: env, os⟩) : op1R T C nF (some d) (.buildSlice t len parts.toArray) ⟨env, os⟩ K := by
  unfold op1R; apply op1_buildSliceT; revert h; unfold btF btG elT
  simp only [evP_eq, zV_eq, zVn_eq, treeK]
  cases tk T t <;> try exact id
  simp only
  cases ti T _ with
  | none => exact id
  | some i =>
    simp only
    generalize fillCells _ _ _ = y
    cases y with
    | none => exact id
    | some y => simp only [bindO, St.put, and_assoc]; exact id
theorem r1_makeSlice {t : TypeId} {l c : Operand} : op1R T C nF (some d) (.makeSlice t l c) ⟨env, os⟩ K = bindO (msF os (elT T (tk T t)) (ev env l) (ev env c)) fun v os => K ⟨(d, v) :: env, os⟩ := by
  unfold op1R; rw [op1_makeSlice]; unfold msF elT
  cases tk T t <;> try rfl
  simp only
  generalize ti T _ = i
  generalize ev env l = x
  generalize ev env c = y
  cases i with
  | none => rfl
  | some i =>
    simp only [List.length_replicate]
    generalize x = x
    cases x with
    | d x =>
      cases x with
      | val v => cases v <;> first | rfl | ((cases y with | d y => (cases y with | val w => (cases w <;> first | rfl | (simp [bindO, St.put, and_assoc, most]; done)) | _ => rfl) | _ => rfl))
      | _ => first | rfl | ((cases y with | d y => (cases y with | val w => (cases w <;> first | rfl | (simp [bindO, St.put, and_assoc, most]; done)) | _ => rfl) | _ => rfl))
    | _ => first | rfl | ((cases y with | d y => (cases y with | val w => (cases w <;> first | rfl | (simp [bindO, St.put, and_assoc, most]; done)) | _ => rfl) | _ => rfl))
theorem r1_slice {t : TypeId} {x : Operand} {lo hi : Option Operand} : op1R T C nF (some d) (.slice t x lo hi none) ⟨env, os⟩ K = bindP (slF T (tk T t) os (ev env x) (lo.map (ev env)) (hi.map (ev env))) fun v => K ⟨(d, v) :: env, os⟩ := by
  unfold op1R; rw [op1_slice]; unfold slF
  cases tk T t <;> try rfl
  · exact strSlK_F
  · simp only
    cases ti T _ with
    | none => rfl
    | some i => exact sliceK_F
theorem r1_makeFunc {f : Fn} {a b : List Operand} : op1R T C nF (some d) (.makeFunc f a.toArray b.toArray) ⟨env, os⟩ K = bindP (some (True, mkFn f (evL env a) (evL env b))) fun v => K ⟨(d, v) :: env, os⟩ := by simp only [evL_eq, bindP_t]; rfl
theorem r1_convert {a b : TypeId} {x : Operand} : op1R T C nF (some d) (.convert a b x) ⟨env, os⟩ K = bindP (cvF T os (tk T a) (tk T b) (ev env x)) fun v => K ⟨(d, v) :: env, os⟩ := by
  unfold op1R; rw [op1_convert]; unfold cvF
  generalize tk T a = k
  generalize tk T b = k2
  cases k <;> cases k2 <;> try rfl
  · generalize ev env x = x
    cases x with
    | d x =>
      cases x with
      | val v => cases v <;> first | rfl | (simp [bindP, St.put, and_assoc]; done)
      | _ => first | rfl | (simp [bindP, St.put, and_assoc]; done)
    | _ => first | rfl | (simp [bindP, St.put, and_assoc]; done)
  · generalize ev env x = x
    cases x with
    | d x =>
      cases x with
      | val v => cases v <;> first | rfl | (simp [bindP, St.put, and_assoc]; done)
      | _ => first | rfl | (simp [bindP, St.put, and_assoc]; done)
    | _ => first | rfl | (simp [bindP, St.put, and_assoc]; done)
  · exact bytesK_F

theorem rq_move {x : Operand} : q1R T C nF (some d) (.move x) ⟨env, os⟩ K = op1R T C nF (some d) (.move x) ⟨env, os⟩ K := q1_move
theorem rq_assign {x : Operand} : q1R T C nF (some d) (.assign x) ⟨env, os⟩ K = op1R T C nF (some d) (.assign x) ⟨env, os⟩ K := q1_assign
theorem rq_pick {c a b : Operand} : q1R T C nF (some d) (.pick c a b) ⟨env, os⟩ K = op1R T C nF (some d) (.pick c a b) ⟨env, os⟩ K := q1_pick
theorem rq_load {t : TypeId} {x : Operand} : q1R T C nF (some d) (.load t x) ⟨env, os⟩ K = op1R T C nF (some d) (.load t x) ⟨env, os⟩ K := q1_load
theorem rq_nilCheck {x : Operand} : q1R T C nF (some d) (.nilCheck x) ⟨env, os⟩ K = op1R T C nF (some d) (.nilCheck x) ⟨env, os⟩ K := q1_nilCheck
theorem rq_bin {op : BinOp} {t t2 : TypeId} {x y : Operand} : q1R T C nF (some d) (.binOp op t x y t2) ⟨env, os⟩ K = bindP (binF (tkE T t) op (ev env x) (ev env y)) fun v => K ⟨(d, v) :: env, os⟩ := by
  unfold q1R; rw [q1_bin, binK_F]; rfl
theorem rq_not {t : TypeId} {x : Operand} : q1R T C nF (some d) (.unOp .not t x) ⟨env, os⟩ K = op1R T C nF (some d) (.unOp .not t x) ⟨env, os⟩ K := q1_not
theorem rq_neg {t : TypeId} {x : Operand} : q1R T C nF (some d) (.unOp .neg t x) ⟨env, os⟩ K = op1R T C nF (some d) (.unOp .neg t x) ⟨env, os⟩ K := q1_neg
theorem rq_convert {a b : TypeId} {x : Operand} : q1R T C nF (some d) (.convert a b x) ⟨env, os⟩ K = op1R T C nF (some d) (.convert a b x) ⟨env, os⟩ K := q1_convert
theorem rq_makeFunc {f : Fn} {a b : Array Operand} : q1R T C nF (some d) (.makeFunc f a b) ⟨env, os⟩ K = op1R T C nF (some d) (.makeFunc f a b) ⟨env, os⟩ K := q1_makeFunc
theorem rq_slice {t : TypeId} {x : Operand} {lo hi : Option Operand} : q1R T C nF (some d) (.slice t x lo hi none) ⟨env, os⟩ K = op1R T C nF (some d) (.slice t x lo hi none) ⟨env, os⟩ K := q1_slice (m := none)
theorem rq_fieldAddr {t : TypeId} {x : Operand} {f : Nat} : q1R T C nF (some d) (.fieldAddr t x f) ⟨env, os⟩ K = op1R T C nF (some d) (.fieldAddr t x f) ⟨env, os⟩ K := q1_fieldAddr
theorem rq_field {t : TypeId} {x : Operand} {f : Nat} : q1R T C nF (some d) (.field t x f) ⟨env, os⟩ K = op1R T C nF (some d) (.field t x f) ⟨env, os⟩ K := q1_field
theorem rq_indexAddr {t : TypeId} {x ix : Operand} : q1R T C nF (some d) (.indexAddr t x ix) ⟨env, os⟩ K = op1R T C nF (some d) (.indexAddr t x ix) ⟨env, os⟩ K := q1_indexAddr
theorem rq_index {t : TypeId} {x ix : Operand} : q1R T C nF (some d) (.index t x ix) ⟨env, os⟩ K = op1R T C nF (some d) (.index t x ix) ⟨env, os⟩ K := q1_index
theorem rq_extract {x : Operand} {i : Nat} : q1R T C nF (some d) (.extract x i) ⟨env, os⟩ K = op1R T C nF (some d) (.extract x i) ⟨env, os⟩ K := q1_extract
theorem rq_build {t : TypeId} {p : Array (Nat × Operand)} : q1R T C nF (some d) (.build t p) ⟨env, os⟩ K = op1R T C nF (some d) (.build t p) ⟨env, os⟩ K := q1_build
theorem rq_len {args : Array Operand} {ats : Array TypeId} : q1R T C nF (some d) (.call { callee := .builtin .len, args, argTypes := ats }) ⟨env, os⟩ K = op1R T C nF (some d) (.call { callee := .builtin .len, args, argTypes := ats }) ⟨env, os⟩ K := q1_len
theorem rq_max {args : Array Operand} {ats : Array TypeId} : q1R T C nF (some d) (.call { callee := .builtin .max, args, argTypes := ats }) ⟨env, os⟩ K = op1R T C nF (some d) (.call { callee := .builtin .max, args, argTypes := ats }) ⟨env, os⟩ K := q1_max
theorem rq_min {args : Array Operand} {ats : Array TypeId} : q1R T C nF (some d) (.call { callee := .builtin .min, args, argTypes := ats }) ⟨env, os⟩ K = op1R T C nF (some d) (.call { callee := .builtin .min, args, argTypes := ats }) ⟨env, os⟩ K := q1_min
end
end
end Go.PL
