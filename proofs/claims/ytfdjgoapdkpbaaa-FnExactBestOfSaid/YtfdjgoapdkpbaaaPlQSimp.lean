/- A plain machine, sound for the given model, and contracts of functions over it, part 8: PlQSimp. Nothing is assumed. -/
import Derived.Test.YtfdjgoapdkpbaaaG06
set_option linter.unusedSimpArgs false
set_option linter.unusedVariables false
set_option linter.unusedSectionVars false
/- PlQSimp -/
namespace Go.PL
open Go

section
variable {T : Tab} {C : Call} {nF : Nat} {all : Array Oper} {r : List Oper} {s : St} {env : List (Nat × V)} {os : List Ob} {K : St → Prop} {dst : Option Tmp} {ty : TypeId} {pos : String} {after : Array Edge} {guard : Option (Nat × Bool)}

/-- The first n operations in whatever order they come, then the others. -/
def qN (T : Tab) (C : Call) (nF : Nat) (all : Array Oper) : Nat → List Oper → St → (St → Prop) → Prop
  | 0, l, s, K => opsK T C nF all l s K
  | _ + 1, [], s, K => K s
  | n + 1, o :: r, s, K => guardK all o s (quiet1K T C nF o s fun s => qN T C nF all n r s K) (qN T C nF all n r (s.put o.dst undefV) K)

theorem qN_zero {l : List Oper} : qN T C nF all 0 l s K = opsK T C nF all l s K := by cases l <;> rfl
theorem qN_eq : ∀ (n : Nat) (l : List Oper) (s : St), qN T C nF all n l s K → quietK T C nF all (l.take n) s (fun s' => opsK T C nF all (l.drop n) s' K)
  | 0, l, s, h => by rw [qN_zero] at h; simpa [quietK] using h
  | n + 1, [], s, h => by simp only [qN] at h; simpa [quietK, opsK] using h
  | n + 1, o :: r, s, h => by
    simp only [List.take_succ_cons, List.drop_succ_cons, quietK]
    simp only [qN] at h
    exact guardK_mono (fun h => quiet1K_mono (fun _ _ _ _ _ h => h) (fun s h => qN_eq n r s h) h) (fun h => qN_eq n r _ h) h

theorem qN_run {n : Nat} {op : Op} : qN T C nF all (n + 1) (⟨dst, op, ty, pos, after, none⟩ :: r) s K = quiet1K T C nF ⟨dst, op, ty, pos, after, none⟩ s (fun s => qN T C nF all n r s K) := rfl

theorem qN_gd {n : Nat} {op : Op} {j : Nat} {want b : Bool} (h : guardV all j env = .d (.val (.bool b))) (h1 : b = want → quiet1K T C nF ⟨dst, op, ty, pos, after, some (j, want)⟩ ⟨env, os⟩ (fun s => qN T C nF all n r s K))
    (h2 : b = (!want) → qN T C nF all n r (St.put ⟨env, os⟩ dst undefV) K) : qN T C nF all (n + 1) (⟨dst, op, ty, pos, after, some (j, want)⟩ :: r) ⟨env, os⟩ K := by
  simp only [qN, guardK]
  unfold guardV at h
  split at h
  · rename_i t ht
    rw [ht]
    simp only [h]
    exact ⟨h1, h2⟩
  · cases h
theorem qN_gt {n : Nat} {op : Op} {j : Nat} {b : Bool} (h : guardV all j env = .d (.val (.bool b))) (h1 : b = true → quiet1K T C nF ⟨dst, op, ty, pos, after, some (j, true)⟩ ⟨env, os⟩ (fun s => qN T C nF all n r s K))
    (h2 : b = false → qN T C nF all n r (St.put ⟨env, os⟩ dst undefV) K) : qN T C nF all (n + 1) (⟨dst, op, ty, pos, after, some (j, true)⟩ :: r) ⟨env, os⟩ K := qN_gd h h1 h2
theorem qN_gf {n : Nat} {op : Op} {j : Nat} {b : Bool} (h : guardV all j env = .d (.val (.bool b))) (h1 : b = false → quiet1K T C nF ⟨dst, op, ty, pos, after, some (j, false)⟩ ⟨env, os⟩ (fun s => qN T C nF all n r s K))
    (h2 : b = true → qN T C nF all n r (St.put ⟨env, os⟩ dst undefV) K) : qN T C nF all (n + 1) (⟨dst, op, ty, pos, after, some (j, false)⟩ :: r) ⟨env, os⟩ K := qN_gd h h1 h2

theorem q1_move {x : Operand} : quiet1K T C nF ⟨dst, .move x, ty, pos, after, guard⟩ ⟨env, os⟩ K = K (St.put ⟨env, os⟩ dst (ev env x)) := by simp [quiet1K, quietOp, opK]
theorem q1_assign {x : Operand} : quiet1K T C nF ⟨dst, .assign x, ty, pos, after, guard⟩ ⟨env, os⟩ K = K (St.put ⟨env, os⟩ dst (ev env x)) := by simp [quiet1K, quietOp, opK]
theorem q1_pick {c a b : Operand} : quiet1K T C nF ⟨dst, .pick c a b, ty, pos, after, guard⟩ ⟨env, os⟩ K = op1K T C nF ⟨dst, .pick c a b, ty, pos, after, guard⟩ ⟨env, os⟩ K := by
  simp only [quiet1K, quietOp, true_and]; rfl
theorem q1_load {t : TypeId} {x : Operand} : quiet1K T C nF ⟨dst, .load t x, ty, pos, after, guard⟩ ⟨env, os⟩ K = op1K T C nF ⟨dst, .load t x, ty, pos, after, guard⟩ ⟨env, os⟩ K := by
  simp only [quiet1K, quietOp, true_and]; rfl
theorem q1_nilCheck {x : Operand} : quiet1K T C nF ⟨dst, .nilCheck x, ty, pos, after, guard⟩ ⟨env, os⟩ K = op1K T C nF ⟨dst, .nilCheck x, ty, pos, after, guard⟩ ⟨env, os⟩ K := by
  simp only [quiet1K, quietOp, true_and, op1K, opK]
theorem q1_bin {op : BinOp} {t t2 : TypeId} {x y : Operand} : quiet1K T C nF ⟨dst, .binOp op t x y t2, ty, pos, after, guard⟩ ⟨env, os⟩ K = binK (tkE T t) op (ev env x) (ev env y) (fun v => K (St.put ⟨env, os⟩ dst v)) := by
  simp only [quiet1K, quietOp, true_and, opK]
theorem q1_not {t : TypeId} {x : Operand} : quiet1K T C nF ⟨dst, .unOp .not t x, ty, pos, after, guard⟩ ⟨env, os⟩ K = op1K T C nF ⟨dst, .unOp .not t x, ty, pos, after, guard⟩ ⟨env, os⟩ K := by
  simp only [quiet1K, quietOp, true_and]; rfl
theorem q1_neg {t : TypeId} {x : Operand} : quiet1K T C nF ⟨dst, .unOp .neg t x, ty, pos, after, guard⟩ ⟨env, os⟩ K = op1K T C nF ⟨dst, .unOp .neg t x, ty, pos, after, guard⟩ ⟨env, os⟩ K := by
  simp only [quiet1K, quietOp, true_and]; rfl
theorem q1_convert {a b : TypeId} {x : Operand} : quiet1K T C nF ⟨dst, .convert a b x, ty, pos, after, guard⟩ ⟨env, os⟩ K = op1K T C nF ⟨dst, .convert a b x, ty, pos, after, guard⟩ ⟨env, os⟩ K := by
  simp only [quiet1K, quietOp, true_and]; rfl
theorem q1_makeFunc {f : Fn} {a b : Array Operand} : quiet1K T C nF ⟨dst, .makeFunc f a b, ty, pos, after, guard⟩ ⟨env, os⟩ K = op1K T C nF ⟨dst, .makeFunc f a b, ty, pos, after, guard⟩ ⟨env, os⟩ K := by
  simp only [quiet1K, quietOp, true_and]; rfl
theorem q1_slice {t : TypeId} {x : Operand} {lo hi m : Option Operand} : quiet1K T C nF ⟨dst, .slice t x lo hi none, ty, pos, after, guard⟩ ⟨env, os⟩ K = op1K T C nF ⟨dst, .slice t x lo hi none, ty, pos, after, guard⟩ ⟨env, os⟩ K := by
  simp only [quiet1K, quietOp, true_and]; rfl
theorem q1_fieldAddr {t : TypeId} {x : Operand} {f : Nat} : quiet1K T C nF ⟨dst, .fieldAddr t x f, ty, pos, after, guard⟩ ⟨env, os⟩ K = op1K T C nF ⟨dst, .fieldAddr t x f, ty, pos, after, guard⟩ ⟨env, os⟩ K := by
  simp only [quiet1K, quietOp, true_and]; rfl
theorem q1_field {t : TypeId} {x : Operand} {f : Nat} : quiet1K T C nF ⟨dst, .field t x f, ty, pos, after, guard⟩ ⟨env, os⟩ K = op1K T C nF ⟨dst, .field t x f, ty, pos, after, guard⟩ ⟨env, os⟩ K := by
  simp only [quiet1K, quietOp, true_and]; rfl
theorem q1_indexAddr {t : TypeId} {x ix : Operand} : quiet1K T C nF ⟨dst, .indexAddr t x ix, ty, pos, after, guard⟩ ⟨env, os⟩ K = op1K T C nF ⟨dst, .indexAddr t x ix, ty, pos, after, guard⟩ ⟨env, os⟩ K := by
  simp only [quiet1K, quietOp, true_and]; rfl
theorem q1_index {t : TypeId} {x ix : Operand} : quiet1K T C nF ⟨dst, .index t x ix, ty, pos, after, guard⟩ ⟨env, os⟩ K = op1K T C nF ⟨dst, .index t x ix, ty, pos, after, guard⟩ ⟨env, os⟩ K := by
  simp only [quiet1K, quietOp, true_and]; rfl
theorem q1_extract {x : Operand} {i : Nat} : quiet1K T C nF ⟨dst, .extract x i, ty, pos, after, guard⟩ ⟨env, os⟩ K = op1K T C nF ⟨dst, .extract x i, ty, pos, after, guard⟩ ⟨env, os⟩ K := by
  simp only [quiet1K, quietOp, true_and]; rfl
theorem q1_build {t : TypeId} {p : Array (Nat × Operand)} : quiet1K T C nF ⟨dst, .build t p, ty, pos, after, guard⟩ ⟨env, os⟩ K = op1K T C nF ⟨dst, .build t p, ty, pos, after, guard⟩ ⟨env, os⟩ K := by
  simp only [quiet1K, quietOp, true_and]; rfl
theorem q1_len {args : Array Operand} {ats : Array TypeId} : quiet1K T C nF ⟨dst, .call { callee := .builtin .len, args, argTypes := ats }, ty, pos, after, guard⟩ ⟨env, os⟩ K = op1K T C nF ⟨dst, .call { callee := .builtin .len, args, argTypes := ats }, ty, pos, after, guard⟩ ⟨env, os⟩ K := by
  simp only [quiet1K, quietOp, true_and]; rfl
theorem q1_max {args : Array Operand} {ats : Array TypeId} : quiet1K T C nF ⟨dst, .call { callee := .builtin .max, args, argTypes := ats }, ty, pos, after, guard⟩ ⟨env, os⟩ K = op1K T C nF ⟨dst, .call { callee := .builtin .max, args, argTypes := ats }, ty, pos, after, guard⟩ ⟨env, os⟩ K := by
  simp only [quiet1K, quietOp, true_and]; rfl
theorem q1_min {args : Array Operand} {ats : Array TypeId} : quiet1K T C nF ⟨dst, .call { callee := .builtin .min, args, argTypes := ats }, ty, pos, after, guard⟩ ⟨env, os⟩ K = op1K T C nF ⟨dst, .call { callee := .builtin .min, args, argTypes := ats }, ty, pos, after, guard⟩ ⟨env, os⟩ K := by
  simp only [quiet1K, quietOp, true_and]; rfl

/-- A call of data that hands back data, in a region that draws its order. -/
theorem q1_pure {f : Operand} {args : Array Operand} {ats : Array TypeId} {n : FuncId} {vs : List V} {ds : List D} {r : V} (hv : calleeV env f args.toList = some (n, vs)) (hl : mapL (leaf os) vs = some (ds, []))
    (hc : C n (ds.map .d) [] r []) (hr : r.isR = true) (h : K (St.put ⟨env, os⟩ dst r)) : quiet1K T C nF ⟨dst, .call { callee := .value f, args, argTypes := ats }, ty, pos, after, guard⟩ ⟨env, os⟩ K := by
  have key : quietCall C ⟨env, os⟩ n vs fun v => K (St.put ⟨env, os⟩ dst v) := by
    refine ⟨ds, [], r, hl, hc, .inr rfl, ?_⟩
    rw [shift_isR hr]
    exact h
  unfold calleeV at hv
  simp only [quiet1K]
  unfold calleeK
  split at hv
  · rename_i e
    simp only [Option.some.injEq, Prod.mk.injEq] at hv
    obtain ⟨rfl, rfl⟩ := hv
    simp only [e]; exact key
  · rename_i e
    simp only [Option.some.injEq, Prod.mk.injEq] at hv
    obtain ⟨rfl, rfl⟩ := hv
    simp only [e]; exact key
  · cases hv

def quietLen : List Oper → Nat
  | [] => 0
  | o :: r => bif quietOp o.op then quietLen r + 1 else 0

theorem Wp.drawA {id : Nat} {l : List Oper} {Q : Ex → St → Prop} (m : Nat) (hd : drawOk l.toArray m = true) (h : qN T C nF l.toArray m l s (Q .normal)) : Wp T C nF (.region id l.toArray true) s Q :=
  .draw m hd (qN_eq m l s h)

theorem Wp.drawQ {id : Nat} {l : List Oper} {Q : Ex → St → Prop} (hd : drawOk l.toArray (quietLen l) = true) (h : qN T C nF l.toArray (quietLen l) l s (Q .normal)) : Wp T C nF (.region id l.toArray true) s Q :=
  .draw _ hd (qN_eq _ l s h)

end
end Go.PL
