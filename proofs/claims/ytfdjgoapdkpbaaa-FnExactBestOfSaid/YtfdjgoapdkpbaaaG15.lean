/- A plain machine, sound for the given model, and contracts of functions over it, part 15: PlSet PlFast PlFine. Nothing is assumed. -/
import Derived.Test.YtfdjgoapdkpbaaaPlBack
set_option linter.unusedSimpArgs false
set_option linter.unusedVariables false
set_option linter.unusedSectionVars false
/- PlSet -/
namespace Go.PL
open Go

inductive RT where
  | done
  | bad
  | op (o : RO) (late : List RO) (t : RT)
  | both (a b : RT)

/-- What is in a list at places. -/
def ats (l : List RO) : List Nat → List RO
  | [] => []
  | k :: r => match l[k]? with
    | some o => o :: ats l r
    | none => ats l r

def resT (l : List RO) : OT → RT
  | .done => .done
  | .op i late t => match l[i]? with
    | some o => .op o (ats l late) (resT l t)
    | none => .bad
  | .both a b => .both (resT l a) (resT l b)

def qSel (ns : List Nat) : Nat → List RO → List RO
  | _, [] => []
  | i, o :: r => bif ns.contains i then qSel ns (i + 1) r else o :: qSel ns (i + 1) r

section
variable {T : Tab} {C : Call} {nF : Nat} {s : St} {env : List (Nat × V)} {os : List Ob} {Q : Ex → St → Prop} {K : St → Prop} {R : Prop}

def qA (T : Tab) (C : Call) (nF : Nat) : List RO → St → (St → Prop) → Prop
  | [], s, K => K s
  | ⟨d, op, none⟩ :: r, s, K => q1R T C nF d op s fun s => qA T C nF r s K
  | ⟨d, op, some (t, w)⟩ :: r, s, K => gcase (gval s.env t) w (q1R T C nF d op s fun s => qA T C nF r s K) (qA T C nF r (s.put d undefV) K)

def lateR (T : Tab) (C : Call) (nF : Nat) : List RO → St → Prop → Prop
  | [], _, R => R
  | ⟨d, op, none⟩ :: r, s, R => q1R T C nF d op s (fun s' => same d s' s) ∧ lateR T C nF r s R
  | ⟨d, op, some (t, w)⟩ :: r, s, R => gcase (gval s.env t) w (q1R T C nF d op s fun s' => same d s' s) (same d (s.put d undefV) s) ∧ lateR T C nF r s R

def trR (T : Tab) (C : Call) (nF : Nat) : RT → St → (St → Prop) → Prop
  | .done, s, K => K s
  | .bad, _, _ => False
  | .op ⟨d, op, none⟩ late t, s, K => op1R T C nF d op s fun s => lateR T C nF late s (trR T C nF t s K)
  | .op ⟨d, op, some (tm, w)⟩ late t, s, K => gcase (gval s.env tm) w (op1R T C nF d op s fun s => lateR T C nF late s (trR T C nF t s K)) (lateR T C nF late (s.put d undefV) (trR T C nF t (s.put d undefV) K))
  | .both a b, s, K => trR T C nF a s K ∧ trR T C nF b s K

theorem qA_q {all : Array Oper} {ds : List (Option Tmp)} (hd : ds = all.toList.map (·.dst)) {ns : List Nat} : ∀ {i : Nat} {l : List Oper} {s : St}, qA T C nF (qSel ns i (resL ds l)) s K → quietK T C nF all (qFrom ns i l) s K
  | _, [], s, h => h
  | i, o :: r, s, h => by
    simp only [resL, qSel] at h
    simp only [qFrom]
    cases hc : ns.contains i with
    | true => rw [hc, cond_true] at h; rw [cond_true]; exact qA_q hd h
    | false =>
      rw [hc, cond_false] at h; rw [cond_false]
      simp only [quietK]
      obtain ⟨dst, op, ty, pos, after, g⟩ := o
      cases g with
      | none => exact quiet1K_mono (o := ⟨dst, op, ty, pos, after, none⟩) (K := fun s => qA T C nF (qSel ns (i + 1) (resL ds r)) s K) (fun _ _ _ _ _ h => h) (fun s h => qA_q hd h) h
      | some x =>
        obtain ⟨j, w⟩ := x
        exact guardK_mono (quiet1K_mono (o := ⟨dst, op, ty, pos, after, some (j, w)⟩) (fun _ _ _ _ _ h => h) (fun s h => qA_q hd h)) (fun h => qA_q hd h) (guard_of hd (o := ⟨dst, op, ty, pos, after, some (j, w)⟩) rfl h)

theorem resL_get {ds : List (Option Tmp)} : ∀ (l : List Oper) (i : Nat), (resL ds l)[i]? = (l[i]?).map fun o => ⟨o.dst, o.op, resG ds o.guard⟩
  | [], i => by simp [resL]
  | o :: r, 0 => by simp [resL]
  | o :: r, i + 1 => by simpa [resL] using resL_get r i

theorem lateR_l {all : Array Oper} {ds : List (Option Tmp)} (hd : ds = all.toList.map (·.dst)) : ∀ {l : List Nat} {s : St} {R : Prop}, lateR T C nF (ats (resL ds all.toList) l) s R → latesK T C nF all l s ∧ R
  | [], s, R, h => ⟨trivial, h⟩
  | k :: r, s, R, h => by
    simp only [ats, resL_get, Array.getElem?_toList] at h
    simp only [latesK]
    cases ho : all[k]? with
    | none =>
      rw [ho] at h
      have := lateR_l hd h
      exact ⟨⟨trivial, this.1⟩, this.2⟩
    | some o =>
      rw [ho] at h
      simp only [Option.map_some] at h
      obtain ⟨dst, op, ty, pos, after, g⟩ := o
      cases g with
      | none =>
        have := lateR_l hd h.2
        exact ⟨⟨quiet1K_mono (o := ⟨dst, op, ty, pos, after, none⟩) (K := fun s' => same dst s' s) (fun _ _ _ _ _ h => h) (fun s h => h) h.1, this.1⟩, this.2⟩
      | some x =>
        obtain ⟨j, w⟩ := x
        have := lateR_l hd h.2
        exact ⟨⟨guardK_mono (quiet1K_mono (o := ⟨dst, op, ty, pos, after, some (j, w)⟩) (fun _ _ _ _ _ h => h) (fun s h => h)) (fun h => h) (guard_of hd (o := ⟨dst, op, ty, pos, after, some (j, w)⟩) rfl h.1), this.1⟩, this.2⟩

theorem trR_t {all : Array Oper} {ds : List (Option Tmp)} (hd : ds = all.toList.map (·.dst)) : ∀ {t : OT} {s : St}, trR T C nF (resT (resL ds all.toList) t) s K → trK T C nF all t s K
  | .done, s, h => h
  | .both a b, s, h => ⟨trR_t hd h.1, trR_t hd h.2⟩
  | .op i late t, s, h => by
    simp only [resT, resL_get, Array.getElem?_toList] at h
    simp only [trK]
    cases ho : all[i]? with
    | none => rw [ho] at h; exact h.elim
    | some o =>
      rw [ho] at h
      simp only [Option.map_some] at h
      obtain ⟨dst, op, ty, pos, after, g⟩ := o
      have key : ∀ {s : St}, lateR T C nF (ats (resL ds all.toList) late) s (trR T C nF (resT (resL ds all.toList) t) s K) → latesK T C nF all late s ∧ trK T C nF all t s K := by
        intro s h
        have := lateR_l hd h
        exact ⟨this.1, trR_t hd this.2⟩
      cases g with
      | none => exact op1K_mono (o := ⟨dst, op, ty, pos, after, none⟩) (K := fun s => lateR T C nF (ats (resL ds all.toList) late) s (trR T C nF (resT (resL ds all.toList) t) s K)) (fun _ _ _ _ _ h => h) (fun s h => key h) h
      | some x =>
        obtain ⟨j, w⟩ := x
        exact guardK_mono (op1K_mono (o := ⟨dst, op, ty, pos, after, some (j, w)⟩) (fun _ _ _ _ _ h => h) (fun s h => key h)) (fun h => key h) (guard_of hd (o := ⟨dst, op, ty, pos, after, some (j, w)⟩) rfl h)

def qMask (ns : List Nat) : Nat → List Oper → List Bool
  | _, [] => []
  | i, _ :: r => ns.contains i :: qMask ns (i + 1) r
def qSelB : List Bool → List RO → List RO
  | true :: m, _ :: r => qSelB m r
  | false :: m, o :: r => o :: qSelB m r
  | _, _ => []
theorem qSelB_eq {ns : List Nat} {ds : List (Option Tmp)} : ∀ {i : Nat} {l : List Oper}, qSelB (qMask ns i l) (resL ds l) = qSel ns i (resL ds l)
  | _, [] => rfl
  | i, o :: r => by
    simp only [qMask, resL, qSel]
    cases ns.contains i <;> simp [qSelB, qSelB_eq]
theorem qSelB_t {m : List Bool} {o : RO} {r : List RO} : qSelB (true :: m) (o :: r) = qSelB m r := rfl
theorem qSelB_f {m : List Bool} {o : RO} {r : List RO} : qSelB (false :: m) (o :: r) = o :: qSelB m r := rfl
theorem qSelB_n {r : List RO} : qSelB [] r = [] := by cases r <;> rfl

/-- A region that draws its order, by the tree of what is not quiet. -/
theorem Wp.drawSR {id : Nat} {l : List Oper} (ns : List Nat) (m : List Bool) (t : OT) (hd : (drawSOk l.toArray ns t && (qMask ns 0 l == m)) = true) (h : qA T C nF (qSelB m (resL (dsts l) l)) s (fun s' => trR T C nF (resT (resL (dsts l) l) t) s' (Q .normal))) : Wp T C nF (.region id l.toArray true) s Q := by
  simp only [Bool.and_eq_true, beq_iff_eq] at hd
  obtain ⟨hd, rfl⟩ := hd
  rw [qSelB_eq] at h
  exact .drawS ns t hd (quietK_mono (fun _ _ _ _ _ h => h) (fun s h => trR_t (all := l.toArray) (by simp [dsts_eq]) h) (qA_q (all := l.toArray) (by simp [dsts_eq]) h))

theorem qA_nil : qA T C nF [] s K = K s := rfl
theorem qA_run {d : Option Tmp} {op : Op} {r : List RO} : qA T C nF (⟨d, op, none⟩ :: r) ⟨env, os⟩ K = q1R T C nF d op ⟨env, os⟩ (fun s => qA T C nF r s K) := rfl
theorem lateR_nil : lateR T C nF [] s R = R := rfl
theorem lateR_run {d : Option Tmp} {op : Op} {r : List RO} : lateR T C nF (⟨d, op, none⟩ :: r) ⟨env, os⟩ R = (q1R T C nF d op ⟨env, os⟩ (fun s' => same d s' ⟨env, os⟩) ∧ lateR T C nF r ⟨env, os⟩ R) := rfl
theorem trR_done : trR T C nF .done s K = K s := rfl
theorem trR_both {a b : RT} : trR T C nF (.both a b) s K = (trR T C nF a s K ∧ trR T C nF b s K) := rfl
theorem trR_run {d : Option Tmp} {op : Op} {late : List RO} {t : RT} : trR T C nF (.op ⟨d, op, none⟩ late t) ⟨env, os⟩ K = op1R T C nF d op ⟨env, os⟩ (fun s => lateR T C nF late s (trR T C nF t s K)) := rfl
theorem same_some {t : Tmp} {env' : List (Nat × V)} {os' : List Ob} : same (some t) ⟨env, os⟩ ⟨env', os'⟩ = (look env t = look env' t) := rfl
theorem same_none {s' : St} : same none s s' = True := rfl
theorem ats_nil {l : List RO} : ats l [] = [] := rfl
def atsC (o : Option RO) (r : List RO) : List RO := match o with | some o => o :: r | none => r
theorem ats_cons {l : List RO} {k : Nat} {r : List Nat} : ats l (k :: r) = atsC l[k]? (ats l r) := by simp only [ats, atsC]
theorem atsC_some {o : RO} {r : List RO} : atsC (some o) r = o :: r := rfl
def resC (o : Option RO) (late : List RO) (t : RT) : RT := match o with | some o => .op o late t | none => .bad
theorem resT_done {l : List RO} : resT l .done = .done := rfl
theorem resT_both {l : List RO} {a b : OT} : resT l (.both a b) = .both (resT l a) (resT l b) := rfl
theorem resT_op {l : List RO} {i : Nat} {late : List Nat} {t : OT} : resT l (.op i late t) = resC l[i]? (ats l late) (resT l t) := by simp only [resT, resC]
theorem resC_some {o : RO} {late : List RO} {t : RT} : resC (some o) late t = .op o late t := rfl
theorem wGqA {d : Option Tmp} {op : Op} {r : List RO} {t : Tmp} {w : Bool} {v : V} (h : gcase v w (q1R T C nF d op ⟨env, os⟩ (fun s => qA T C nF r s K)) (qA T C nF r (St.put ⟨env, os⟩ d undefV) K))
    (e : look env t = v := by simp -implicitDefEqProofs (disch := omega) only [go_sem]; exact rfl) : qA T C nF (⟨d, op, some (some t, w)⟩ :: r) ⟨env, os⟩ K := by subst e; exact h
theorem wGl {d : Option Tmp} {op : Op} {r : List RO} {t : Tmp} {w : Bool} {v : V} (h : gcase v w (q1R T C nF d op ⟨env, os⟩ (fun s' => same d s' ⟨env, os⟩)) (same d (St.put ⟨env, os⟩ d undefV) ⟨env, os⟩) ∧ lateR T C nF r ⟨env, os⟩ R)
    (e : look env t = v := by simp -implicitDefEqProofs (disch := omega) only [go_sem]; exact rfl) : lateR T C nF (⟨d, op, some (some t, w)⟩ :: r) ⟨env, os⟩ R := by subst e; exact h
theorem wGt2 {d : Option Tmp} {op : Op} {late : List RO} {u : RT} {t : Tmp} {w : Bool} {v : V} (h : gcase v w (op1R T C nF d op ⟨env, os⟩ (fun s => lateR T C nF late s (trR T C nF u s K))) (lateR T C nF late (St.put ⟨env, os⟩ d undefV) (trR T C nF u (St.put ⟨env, os⟩ d undefV) K)))
    (e : look env t = v := by simp -implicitDefEqProofs (disch := omega) only [go_sem]; exact rfl) : trR T C nF (.op ⟨d, op, some (some t, w)⟩ late u) ⟨env, os⟩ K := by subst e; exact h

/-- What is behind a region whose orders all come to one frame. -/
theorem Imp.norm {c : Code} {K : St → Prop} (hK : Imp (fun s => Wp T C nF c s Q) K) (s0 : St) (h0 : Wp T C nF c s0 Q) : Imp (fun s => Weak nF s s0) K := fun s hw => hK s (.weak hw h0)

theorem wNorm {c r : Code} {K : St → Prop} (s0 : St) (hK : Imp (fun s => Wp T C nF c s Q) K) (h0 : Wp T C nF c s0 Q) {Q' : Ex → St → Prop} (h : Imp (fun s => Weak nF s s0) K → Wp T C nF r s (thn K Q')) : Wp T C nF r s (thn K Q') := h (hK.norm s0 h0)
theorem shift_msl {n o a b : Nat} : V.shift n (.msl o a b) = .msl (n + o) a b := rfl

/-- Objects under other numbers, by a table. -/
def renF (π : List Nat) (o : Nat) : Nat := (π[o]?).getD o
def renOk (π : List Nat) (nF : Nat) : Bool := (List.range π.length).all fun o => Nat.blt (renF π o) π.length && Nat.beq (renF π (renF π o)) o && (Nat.ble nF o || Nat.beq (renF π o) o)
def renE (f : Nat → Nat) : List (Nat × V) → List (Nat × V)
  | [] => []
  | (t, v) :: r => (t, v.ren f) :: renE f r
def renO (f : Nat → Nat) (os : List Ob) : List Nat → List Ob
  | [] => []
  | i :: r => Ob.ren f ((os[i]?).getD .dead) :: renO f os r
theorem renE_eq {f : Nat → Nat} : ∀ l, renE f l = l.map fun x => (x.1, x.2.ren f)
  | [] => rfl
  | (t, v) :: r => by rw [renE, renE_eq r]; rfl
theorem renO_get {f : Nat → Nat} : ∀ (π : List Nat) (o : Nat), (renO f os π)[o]? = (π[o]?).map fun i => Ob.ren f ((os[i]?).getD .dead)
  | [], o => by simp [renO]
  | i :: r, 0 => by simp [renO]
  | i :: r, o + 1 => by simpa [renO] using renO_get r o
theorem renO_len {f : Nat → Nat} : ∀ (π : List Nat), (renO f os π).length = π.length
  | [] => rfl
  | i :: r => by simp [renO, renO_len r]

theorem Weak.perm (π : List Nat) {s' : St} (hc : renOk π nF = true) (hl : os.length = π.length) (h : Weak nF ⟨renE (renF π) env, renO (renF π) os π⟩ s') : Weak nF ⟨env, os⟩ s' := by
  refine .trans ?_ h
  unfold renOk at hc
  simp only [List.all_eq_true, List.mem_range, Bool.and_eq_true, Nat.blt_eq, Bool.or_eq_true, Nat.ble_eq] at hc
  have out : ∀ o, π.length ≤ o → renF π o = o := fun o ho => by unfold renF; rw [List.getElem?_eq_none ho]; rfl
  rw [renE_eq]
  refine .ren (s := ⟨env, os⟩) (renF π) (fun o => ?_) (fun o ho => ?_) (by rw [renO_len]; exact hl.symm) (fun o ho => ?_) fun o ho => ?_
  · rcases Nat.lt_or_ge o π.length with q | q
    · exact Nat.eq_of_beq_eq_true (hc o q).1.2
    · rw [out o q, out o q]
  · rcases Nat.lt_or_ge o π.length with q | q
    · rcases (hc o q).2 with q2 | q2
      · omega
      · exact Nat.eq_of_beq_eq_true q2
    · exact out o q
  · rw [hl] at ho ⊢
    exact (hc o ho).1.1
  · rw [hl] at ho
    rw [renO_get]
    have e : π[o]? = some (renF π o) := by unfold renF; rw [List.getElem?_eq_getElem ho]; rfl
    have hlt : renF π o < os.length := by rw [hl]; exact (hc o ho).1.1
    rw [e]
    simp only [Option.map_some, List.getElem?_eq_getElem hlt, Option.getD_some]

theorem renE_nil {f : Nat → Nat} : renE f [] = [] := rfl
theorem renE_cons {f : Nat → Nat} {t : Nat} {v : V} {r : List (Nat × V)} : renE f ((t, v) :: r) = (t, v.ren f) :: renE f r := rfl
theorem renO_nil {f : Nat → Nat} : renO f os [] = [] := rfl
theorem renO_cons {f : Nat → Nat} {i : Nat} {r : List Nat} : renO f os (i :: r) = Ob.ren f ((os[i]?).getD .dead) :: renO f os r := rfl
theorem ren_d {f : Nat → Nat} {x : D} : V.ren f (.d x) = .d x := rfl
theorem ren_any {f : Nat → Nat} : V.ren f .any = .any := rfl
theorem ren_ref {f : Nat → Nat} {o i j : Nat} : V.ren f (.ref o i j) = .ref (f o) i j := rfl
theorem ren_msl {f : Nat → Nat} {o i j : Nat} : V.ren f (.msl o i j) = .msl (f o) i j := rfl
theorem oren_arr {f : Nat → Nat} {n : Nat} {es : List D} {b : Bool} : Ob.ren f (.arr n es b) = .arr n es b := rfl
theorem oren_var {f : Nat → Nat} {x : V} {b : Bool} : Ob.ren f (.var [x] b) = .var [x.ren f] b := rfl
theorem oren_dead {f : Nat → Nat} : Ob.ren f .dead = .dead := rfl
theorem renF_eq {π : List Nat} {o : Nat} : renF π o = (π[o]?).getD o := rfl
end
attribute [go_sem ↓] qA_nil qA_run lateR_nil trR_done trR_run
attribute [go_sem] shift_msl lateR_run trR_both same_some same_none ats_nil ats_cons atsC_some resT_done resT_both resT_op resC_some qSelB_t qSelB_f qSelB_n renE_nil renE_cons renO_nil renO_cons ren_d ren_any ren_ref ren_msl oren_arr oren_var oren_dead renF_eq
end Go.PL

/- PlFast -/
namespace Go.PL
open Go
/-- The operations that an operation waits for at once. -/
def deps (all : Array Oper) (j : Nat) : List Nat := ((all[j]?).map fun o => o.after.toList.filterMap fun e => if Region.binds .any e then some e.on else none).getD []
/-- A table of all that each operation waits for. -/
def tabOk (all : Array Oper) (T : List (List Nat)) : Bool := (List.range all.size).all fun j =>
  (deps all j).all (fun d => decide (d < j)) && (T.getD j []).all (fun i => (deps all j).any fun d => i == d || (T.getD d []).contains i) &&
  (deps all j).all (fun d => (T.getD j []).contains d && (T.getD d []).all fun i => (T.getD j []).contains i)
def drawF (all : Array Oper) (T : List (List Nat)) : Bool := tabOk all T && (List.range all.size).all fun j =>
  (T.getD j []).all (fun i => decide (i < j)) && (List.range all.size).all fun i => (match all[i]?, all[j]? with
    | some a, some b => a.dst.toList.all fun t => (!(readTmps all b).contains t || (T.getD j []).contains i) && (i == j || !(b.dst == some t))
    | _, _ => false)
theorem mem_waits {all : Array Oper} {k j i : Nat} : i ∈ waits all (k + 1) j ↔ ∃ d ∈ deps all j, i = d ∨ i ∈ waits all k d := by
  show i ∈ ((all[j]?).map fun o => o.after.toList.flatMap fun e => if Region.binds .any e then e.on :: waits all k e.on else []).getD [] ↔ _
  unfold deps
  cases all[j]? with
  | none => simp
  | some o =>
    simp only [Option.map_some, Option.getD_some, List.mem_flatMap, List.mem_filterMap]
    constructor
    · rintro ⟨e, he, hi⟩
      split at hi
      · rename_i hb
        refine ⟨e.on, ⟨e, he, by rw [if_pos hb]⟩, ?_⟩
        rcases List.mem_cons.1 hi with h | h
        · exact .inl h
        · exact .inr h
      · cases hi
    · rintro ⟨d, ⟨e, he, hd⟩, hi⟩
      split at hd
      · rename_i hb
        obtain rfl := Option.some.inj hd
        exact ⟨e, he, by rw [if_pos hb]; exact List.mem_cons.2 hi⟩
      · cases hd
theorem waits_tab {all : Array Oper} {T : List (List Nat)} (h : tabOk all T = true) : ∀ n j, j < n → j < all.size → ∀ i, i ∈ waits all n j ↔ i ∈ T.getD j []
  | 0, _, hj, _, _ => by omega
  | n + 1, j, hj, hs, i => by
    have hj' := List.all_eq_true.1 h j (List.mem_range.2 hs)
    simp only [Bool.and_eq_true, List.all_eq_true, List.any_eq_true, decide_eq_true_eq, Bool.or_eq_true, beq_iff_eq, List.contains_iff_mem] at hj'
    obtain ⟨⟨h1, h2⟩, h3⟩ := hj'
    rw [mem_waits]
    constructor
    · rintro ⟨d, hd, rfl | hi⟩
      · exact (h3 _ hd).1
      · exact (h3 d hd).2 i ((waits_tab h n d (by have := h1 d hd; omega) (by have := h1 d hd; omega) i).1 hi)
    · intro hi
      obtain ⟨d, hd, rfl | hi2⟩ := h2 i hi
      · exact ⟨_, hd, .inl rfl⟩
      · exact ⟨d, hd, .inr ((waits_tab h n d (by have := h1 d hd; omega) (by have := h1 d hd; omega) i).2 hi2)⟩
theorem drawSOk_of {all : Array Oper} {T : List (List Nat)} (h : drawF all T = true) : drawSOk all [] .done = true := by
  unfold drawF at h
  rw [Bool.and_eq_true] at h
  obtain ⟨ht, h⟩ := h
  unfold drawSOk
  simp only [headsOk, treeSub, List.all_nil, Bool.and_true, List.contains_nil, Bool.false_or, Bool.not_false]
  rw [List.all_eq_true] at h ⊢
  intro j hj
  have hj2 := List.mem_range.1 hj
  have hw := waits_tab ht all.size j hj2 hj2
  have hc : ∀ i, (waits all all.size j).contains i = (T.getD j []).contains i := fun i => by
    rw [Bool.eq_iff_iff, List.contains_iff_mem, List.contains_iff_mem]; exact hw i
  have := h j hj
  rw [Bool.and_eq_true, List.all_eq_true] at this
  obtain ⟨h1, h2⟩ := this
  simp only [Bool.and_eq_true, List.all_eq_true]
  refine ⟨⟨fun i hi => h1 i ((hw i).1 hi), fun _ _ => trivial⟩, ?_⟩
  intro i hi
  have := List.all_eq_true.1 h2 i hi
  simp only [hc]
  exact this
variable {T : Tab} {C : Call} {nF : Nat} {s : St} {Q : Ex → St → Prop}
theorem Wp.drawFR {id : Nat} {l : List Oper} (W : List (List Nat)) (m : List Bool) (hd : (drawF l.toArray W && (qMask [] 0 l == m)) = true) (h : qA T C nF (qSelB m (resL (dsts l) l)) s (fun s' => trR T C nF (resT (resL (dsts l) l) .done) s' (Q .normal))) : Wp T C nF (.region id l.toArray true) s Q := by
  rw [Bool.and_eq_true] at hd
  exact .drawSR [] m .done (by rw [drawSOk_of hd.1, Bool.true_and]; exact hd.2) h
end Go.PL

/- PlFine -/
/- The steps of the walk gathered: each theorem carries its own text. -/
namespace Go.PL
open Go
section
variable {T : Tab} {C : Call} {nF : Nat} {s : St} {Q' : Ex → St → Prop} {K : St → Prop} {R : Prop}
instance {l : List RO} : Sx (qA T C nF l s K) := ⟨⟩
instance {l : List RO} : Sx (lateR T C nF l s R) := ⟨⟩
instance {t : RT} : Sx (trR T C nF t s K) := ⟨⟩
end
/-- What simp does. -/
theorem nx' {P Q : Prop} [Sx P] (h : Q) (e : P = Q := by simp -implicitDefEqProofs (disch := omega) only [go_sem]; exact rfl) : P := e ▸ h
/-- A step that is told by its form. -/
class Sp (P : Prop) (Q : outParam Prop) : Prop where
  h : Q → P
section
variable {T : Tab} {C : Call} {nF : Nat} {s : St} {Q : Ex → St → Prop} {K : St → Prop} {A B : Prop}
instance {id : Nat} {l : List Oper} : Sp (Wp T C nF (.region id l.toArray false) s Q) (opsR T C nF (resL (dsts l) l) s (Q .normal)) := ⟨rR⟩
instance : Sp (Wp T C nF .skip s Q) (Q .normal s) := ⟨Wp.skip⟩
instance : Sp (Wp T C nF .ret s Q) (Q .ret s) := ⟨Wp.ret⟩
instance {n : Nat} : Sp (Wp T C nF (.exit n) s Q) (Q (.exit n) s) := ⟨Wp.exit⟩
instance {l : Nat} : Sp (Wp T C nF (.label l) s Q) (Q .normal s) := ⟨Wp.label⟩
instance : Sp (bcase (.d (.val (.bool true))) A B) A := ⟨bcaseT⟩
instance : Sp (bcase (.d (.val (.bool false))) A B) B := ⟨bcaseF⟩
instance : Sp (gcase (.d (.val (.bool true))) true A B) A := ⟨gcaseTT⟩
instance : Sp (gcase (.d (.val (.bool true))) false A B) B := ⟨gcaseTF⟩
instance : Sp (gcase (.d (.val (.bool false))) true A B) B := ⟨gcaseFT⟩
instance : Sp (gcase (.d (.val (.bool false))) false A B) A := ⟨gcaseFF⟩
instance {w : Bool} : Sp (gcase undefV w A B) B := ⟨gcaseU⟩
end
theorem n0 {P Q : Prop} [i : Sp P Q] (h : Q) : P := i.h h
/-- A step with one goal behind it. -/
theorem n1 {P Q : Prop} (h : Q) (e : Q → P := by
  first
  | exact fun h => wE h | exact fun h => wG h | exact fun h => an h | exact r1_buildSlice | exact r1_append
  | exact fun h => wGq h | exact nilB_pos (by omega) | exact fun h => wGqA h | exact fun h => wGl h | exact fun h => wGt2 h | fail) : P := e h
/-- A call by a contract that is looked up. -/
theorem nP {P pre Q : Prop} (h : pre) (h2 : Q) (e : pre → Q → P := by
  intro a b
  first
  | ((first | refine wC ?_ | refine wC0 ?_); first | exact pN a rfl b | (refine pcDn ?_; exact pN a rfl b))
  | (refine wCq ?_; first | exact pQ a rfl (.inl rfl) b | exact pQ a rfl (.inr rfl) b | (refine pcDQn ?_; first | exact pQ a rfl (.inl rfl) b | exact pQ a rfl (.inr rfl) b | fail))
  | fail) : P := e h h2
/-- A call by a contract that is named. -/
theorem nPc {C : Call} {n : FuncId} {vs : List V} {r : V} {P Q : Prop} (hc : C n vs [] r []) (h2 : Q) (e : C n vs [] r [] → Q → P := by
  intro a b
  first
  | ((first | refine wC ?_ | refine wC0 ?_); first | exact pNc a rfl b | (refine pcDn ?_; exact pNc a rfl b))
  | (refine wCq ?_; first | exact pQc a rfl (.inl rfl) b | exact pQc a rfl (.inr rfl) b | (refine pcDQn ?_; first | exact pQc a rfl (.inl rfl) b | exact pQc a rfl (.inr rfl) b | fail))
  | fail) : P := e hc h2
/-- What is left to be done behind is named. -/
theorem nS {P : Prop} {A : St → Prop} {B : (St → Prop) → Prop} (h : ∀ K, Imp A K → B K) (e : (∀ K, Imp A K → B K) → P := by first | exact wS | exact wB | fail) : P := e h
/-- A condition that is not known. -/
theorem n2 {P A B c d : Prop} (h1 : c → A) (h2 : d → B) (e : (c → A) → (d → B) → P := by
  first
  | (refine fun a b => bcase_s (fun h => a ?_) (fun h => b ?_) <;> first | (simp only [FX, LX] at h; exact h) | exact h)
  | (refine fun a b => gcase_st (fun h => Eq.mpr ?_ (a ?_)) (fun h => Eq.mpr ?_ (b ?_)) <;> first | (simp only [FX, LX] at h; exact h) | exact h | (simp only [h]; exact rfl) | exact rfl)
  | (refine fun a b => gcase_sf (fun h => Eq.mpr ?_ (a ?_)) (fun h => Eq.mpr ?_ (b ?_)) <;> first | (simp only [FX, LX] at h; exact h) | exact h | (simp only [h]; exact rfl) | exact rfl)
  | fail) : P := e h1 h2
theorem nK {K A : St → Prop} {s : St} {Q : Prop} (hK : Imp A K) (h : Q) (e : A s = Q := by (try simp only [TX, Nat.reduceBEq]); exact rfl) : K s := hK s (e ▸ h)
theorem nl {P : Prop} (e : P := by first | assumption | omega | exact trivial | (simp only [LX]; omega) | fail) : P := e
section
variable {nF : Nat} {env env' : List (Nat × V)} {os os' tl : List Ob}
theorem Weak.lo (h : sub env env' := by (simp -implicitDefEqProofs (disch := omega) only [go_sem, sub_nil, sub_cons, LX]; try ((repeat' refine And.intro ?_ ?_) <;> first | rfl | trivial | (congr 3; omega) | (congr 1; omega)))) : Weak nF ⟨env, os⟩ ⟨env', os⟩ := .env h rfl
theorem Weak.cu (h : sub env env' := by (simp -implicitDefEqProofs (disch := omega) only [go_sem, sub_nil, sub_cons, LX]; try ((repeat' refine And.intro ?_ ?_) <;> first | rfl | trivial | (congr 3; omega) | (congr 1; omega))))
    (ho : os = os' ++ tl := by exact rfl) (hn : nF ≤ os'.length := by simp) (h1 : (env'.all fun p => p.2.bnd os'.length) = true := by exact rfl) (h2 : (os'.all (Ob.bnd os'.length)) = true := by exact rfl) :
    Weak nF ⟨env, os⟩ ⟨env', os'⟩ := .drop tl hn h ho h1 h2
end
end Go.PL
