/- A plain machine, sound for the given model, and contracts of functions over it, part 16: PlText PlDec PlNum PlFast PlFine. Nothing is assumed. -/
import Derived.Test.YtedbifiejciocacDoorG15
import Derived.Lib.ItoaNum
import Derived.Lib.Atoi
set_option linter.unusedSimpArgs false
set_option linter.unusedVariables false
set_option linter.unusedSectionVars false
/- PlText -/
/- Decimal texts of naturals by limbs of four digits. -/
namespace Go.PL
open Go
/-- A limb's four digits. -/
def pad4 (x : Int) : List UInt8 := List.replicate (4 - (Lib.decDigits x.toNat).length) 48 ++ Lib.decDigits x.toNat
/-- Limbs' digits, the top first. -/
def textR : List Int → List UInt8
  | [] => []
  | x :: r => Lib.decDigits x.toNat ++ (r.map pad4).flatten
/-- A natural's text. -/
def natTB (a : List Int) : ByteArray := if a = [] then ⟨#[48]⟩ else ⟨(textR a.reverse).toArray⟩

theorem textR_one (x : Int) : textR [x] = Lib.decDigits x.toNat := by simp [textR]
theorem textR_snoc {r : List Int} (x : Int) (h : r ≠ []) : textR (r ++ [x]) = textR r ++ pad4 x := by
  cases r with
  | nil => exact absurd rfl h
  | cons y r => simp [textR]
theorem drop_rev {a : List Int} {k : Nat} (h : k < a.length) : (a.drop k).reverse = (a.drop (k + 1)).reverse ++ [a.getD k 0] := by
  rw [List.drop_eq_getElem_cons h, List.reverse_cons, List.getD, List.getElem?_eq_getElem h]; rfl
theorem textR_drop {a : List Int} {k : Nat} (h : k + 1 < a.length) : textR (a.drop k).reverse = textR (a.drop (k + 1)).reverse ++ pad4 (a.getD k 0) := by
  rw [drop_rev (by omega)]
  refine textR_snoc _ fun e => ?_
  have := congrArg List.length e
  simp at this; omega
theorem textR_top {a : List Int} (h : 0 < a.length) : textR (a.drop (a.length - 1)).reverse = Lib.decDigits (a.getD (a.length - 1) 0).toNat := by
  rw [drop_rev (by omega), List.drop_eq_nil_of_le (by omega), List.reverse_nil, List.nil_append, textR_one]
theorem dec_step {n : Nat} (h : 10 ≤ n) : Lib.decDigits n = Lib.decDigits (n / 10) ++ [UInt8.ofNat (48 + n % 10)] := by
  rw [Lib.decDigits, dif_neg (by omega)]
theorem dec_small {n : Nat} (h : n < 10) : Lib.decDigits n = [UInt8.ofNat (48 + n)] := by
  rw [Lib.decDigits, dif_pos h]
theorem dec_len {n : Nat} (h : n < 10000) : 1 ≤ (Lib.decDigits n).length ∧ (Lib.decDigits n).length ≤ 4 := by
  by_cases h1 : n < 10
  · rw [dec_small h1]; simp
  by_cases h2 : n < 100
  · rw [dec_step (by omega), dec_small (by omega)]; simp
  by_cases h3 : n < 1000
  · rw [dec_step (by omega), dec_step (by omega), dec_small (by omega)]; simp
  · rw [dec_step (by omega), dec_step (by omega), dec_step (by omega), dec_small (by omega)]; simp
theorem pad4_len {x : Int} (h : 0 ≤ x ∧ x ≤ 9999) : (pad4 x).length = 4 := by
  have := dec_len (n := x.toNat) (by omega)
  rw [pad4, List.length_append, List.length_replicate]; omega
theorem ofNat48 : (48 : UInt8) = UInt8.ofNat (48 + 0) := rfl
theorem pad4_eq {n : Nat} (h : n < 10000) : pad4 n = [UInt8.ofNat (48 + n / 1000), UInt8.ofNat (48 + n / 100 % 10), UInt8.ofNat (48 + n / 10 % 10), UInt8.ofNat (48 + n % 10)] := by
  unfold pad4
  simp only [Int.toNat_natCast]
  have d2 : n / 10 / 10 = n / 100 := by omega
  have d3 : n / 100 / 10 = n / 1000 := by omega
  by_cases h1 : n < 10
  · rw [dec_small h1, show n / 1000 = 0 by omega, show n / 100 = 0 by omega, show n / 10 = 0 by omega, show n % 10 = n by omega]; rfl
  by_cases h2 : n < 100
  · rw [dec_step (n := n) (by omega), dec_small (n := n / 10) (by omega), show n / 1000 = 0 by omega, show n / 100 = 0 by omega, show n / 10 % 10 = n / 10 by omega]; rfl
  by_cases h3 : n < 1000
  · rw [dec_step (n := n) (by omega), dec_step (n := n / 10) (by omega), d2, dec_small (n := n / 100) (by omega), show n / 1000 = 0 by omega, show n / 100 % 10 = n / 100 by omega]; rfl
  · rw [dec_step (n := n) (by omega), dec_step (n := n / 10) (by omega), d2, dec_step (n := n / 100) (by omega), d3, dec_small (n := n / 1000) (by omega)]; rfl
theorem dec_over {n : Nat} (h : n < 10000) : Lib.decDigits (10000 + n) = 49 :: pad4 n := by
  rw [pad4_eq h, dec_step (n := 10000 + n) (by omega), show (10000 + n) / 10 = 1000 + n / 10 by omega, show (10000 + n) % 10 = n % 10 by omega,
    dec_step (n := 1000 + n / 10) (by omega), show (1000 + n / 10) / 10 = 100 + n / 100 by omega, show (1000 + n / 10) % 10 = n / 10 % 10 by omega,
    dec_step (n := 100 + n / 100) (by omega), show (100 + n / 100) / 10 = 10 + n / 1000 by omega, show (100 + n / 100) % 10 = n / 100 % 10 by omega,
    dec_step (n := 10 + n / 1000) (by omega), show (10 + n / 1000) / 10 = 1 by omega, show (10 + n / 1000) % 10 = n / 1000 by omega, dec_small (n := 1) (by omega)]
  rfl
theorem pad4_lim {x : Int} (h : 0 ≤ x ∧ x ≤ 9999) : Lib.decDigits (10000 + x).toNat = 49 :: pad4 x := by
  obtain ⟨n, rfl⟩ : ∃ n : Nat, x = n := ⟨x.toNat, by omega⟩
  rw [show (10000 + (n : Int)).toNat = 10000 + n by omega, dec_over (by omega)]
theorem textR_len : ∀ {l : List Int}, (∀ x ∈ l, 0 ≤ x ∧ x ≤ 9999) → (textR l).length ≤ 4 * l.length
  | [], _ => by simp [textR]
  | x :: r, h => by
    have h1 := dec_len (n := x.toNat) (by have := h x (by simp); omega)
    have h2 : (r.map pad4).flatten.length = 4 * r.length := by
      have : ∀ l : List Int, (∀ x ∈ l, 0 ≤ x ∧ x ≤ 9999) → (l.map pad4).flatten.length = 4 * l.length := by
        intro l hl
        induction l with
        | nil => rfl
        | cons y s ih =>
          rw [List.map_cons, List.flatten_cons, List.length_append, pad4_len (hl y (by simp)), ih fun z hz => hl z (by simp [hz]), List.length_cons]; omega
      exact this r fun z hz => h z (by simp [hz])
    rw [textR, List.length_append, h2, List.length_cons]; omega
end Go.PL

/- PlDec -/
/- Decimal digits read: what a text of digits stands for, and its limbs of four digits. -/
namespace Go.PL
open Go
def isDg (c : UInt8) : Prop := 48 ≤ c.toNat ∧ c.toNat ≤ 57
instance (c : UInt8) : Decidable (isDg c) := by unfold isDg; infer_instance
/-- What a digit stands for. -/
def dgN (c : UInt8) : Nat := c.toNat - 48
/-- What digits stand for, the last one first. -/
def dvR : List UInt8 → Nat
  | [] => 0
  | c :: r => dgN c + 10 * dvR r
def dv (l : List UInt8) : Nat := dvR l.reverse
theorem dvR_app (l m : List UInt8) : dvR (l ++ m) = dvR l + 10 ^ l.length * dvR m := by
  induction l with
  | nil => rw [List.nil_append, List.length_nil, Nat.pow_zero, Nat.one_mul]; exact (Nat.zero_add _).symm
  | cons c r ih =>
    rw [List.cons_append, List.length_cons, Nat.pow_succ]
    show dgN c + 10 * dvR (r ++ m) = dgN c + 10 * dvR r + 10 ^ r.length * 10 * dvR m
    rw [ih, Nat.mul_add, Nat.add_assoc, Nat.mul_comm (10 ^ r.length) 10, Nat.mul_assoc]
theorem dv_app (l m : List UInt8) : dv (l ++ m) = dv l * 10 ^ m.length + dv m := by
  unfold dv
  rw [List.reverse_append, dvR_app, List.length_reverse, Nat.mul_comm, Nat.add_comm]
theorem dv_one (c : UInt8) : dv [c] = c.toNat - 48 := by
  show dgN c + 10 * 0 = _
  rw [Nat.mul_zero]; rfl
theorem dv_snoc (l : List UInt8) (c : UInt8) : dv (l ++ [c]) = dv l * 10 + (c.toNat - 48) := by
  rw [dv_app, dv_one]; rfl
theorem dv_nil : dv [] = 0 := rfl
theorem snocRec {motive : List UInt8 → Prop} (h0 : motive []) (h1 : ∀ l c, motive l → motive (l ++ [c])) : ∀ l, motive l := by
  intro l
  have key : ∀ r : List UInt8, motive r.reverse := by
    intro r
    induction r with
    | nil => exact h0
    | cons c r ih => rw [List.reverse_cons]; exact h1 _ _ ih
  have := key l.reverse
  rwa [List.reverse_reverse] at this
theorem dv_lt {l : List UInt8} (h : ∀ c ∈ l, isDg c) : dv l < 10 ^ l.length := by
  induction l using snocRec with
  | h0 => exact Nat.one_pos
  | h1 l c ih =>
    have h1 := ih fun x hx => h x (by simp [hx])
    have h2 := h c (by simp)
    unfold isDg at h2
    rw [dv_snoc, List.length_append, List.length_singleton, Nat.pow_succ]
    generalize 10 ^ l.length = p at *
    omega
theorem ofNat_toNat {n : Nat} (h : n < 256) : (UInt8.ofNat n).toNat = n := by simp [UInt8.toNat_ofNat']; omega
theorem dec_dig (n : Nat) : ∀ c ∈ Lib.decDigits n, isDg c := by
  induction n using Nat.strongRecOn with
  | _ n ih =>
    by_cases h : n < 10
    · rw [dec_small h]
      intro c hc
      rw [List.mem_singleton] at hc
      subst hc
      unfold isDg
      rw [ofNat_toNat (by omega)]; omega
    · rw [dec_step (by omega)]
      intro c hc
      rw [List.mem_append, List.mem_singleton] at hc
      rcases hc with hc | rfl
      · exact ih (n / 10) (by omega) c hc
      · unfold isDg
        rw [ofNat_toNat (by omega)]; omega
theorem dv_dec (n : Nat) : dv (Lib.decDigits n) = n := by
  induction n using Nat.strongRecOn with
  | _ n ih =>
    by_cases h : n < 10
    · rw [dec_small h, dv_one, ofNat_toNat (by omega)]; omega
    · rw [dec_step (by omega), dv_snoc, ih (n / 10) (by omega), ofNat_toNat (by omega)]; omega
theorem dec_inj {m n : Nat} (h : Lib.decDigits m = Lib.decDigits n) : m = n := by
  rw [← dv_dec m, h, dv_dec]
theorem dec_ne (n : Nat) : Lib.decDigits n ≠ [] := by
  by_cases h : n < 10
  · rw [dec_small h]; simp
  · rw [dec_step (by omega)]; simp
/-- Digits as a number's text has them: no nought ahead of another. -/
def okDg (l : List UInt8) : Prop := l ≠ [] ∧ (∀ c ∈ l, isDg c) ∧ (l.length = 1 ∨ l.getD 0 0 ≠ 48)
theorem dec_ok (n : Nat) : okDg (Lib.decDigits n) := by
  refine ⟨dec_ne n, dec_dig n, ?_⟩
  induction n using Nat.strongRecOn with
  | _ n ih =>
    by_cases h : n < 10
    · rw [dec_small h]; simp
    · have h1 := ih (n / 10) (by omega)
      have h2 := dec_ne (n / 10)
      have h4 := dv_dec (n / 10)
      have h5 := dec_dig (n / 10)
      rw [dec_step (by omega)]
      right
      cases hd : Lib.decDigits (n / 10) with
      | nil => exact absurd hd h2
      | cons c r =>
        rw [hd] at h1 h4 h5
        simp only [List.cons_append, List.getD_cons_zero]
        rcases h1 with h1 | h1
        · have : r = [] := List.eq_nil_of_length_eq_zero (by simpa using h1)
          subst this
          rw [dv_one] at h4
          rintro rfl
          have : (48 : UInt8).toNat = 48 := rfl
          omega
        · simpa using h1
theorem dec_of {l : List UInt8} (h : okDg l) : Lib.decDigits (dv l) = l := by
  obtain ⟨h1, h2, h3⟩ := h
  induction l using snocRec with
  | h0 => exact absurd rfl h1
  | h1 l c ih =>
    have hc := h2 c (by simp)
    unfold isDg at hc
    have hu : UInt8.ofNat (48 + (c.toNat - 48)) = c := by
      rw [show 48 + (c.toNat - 48) = c.toNat by omega]; simp
    by_cases hl : l = []
    · subst hl
      rw [List.nil_append, dv_one, dec_small (by omega), hu]
    · have h0 : l.getD 0 0 ≠ 48 := by
        rcases h3 with h3 | h3
        · exfalso
          have : 0 < l.length := List.length_pos_iff.2 hl
          rw [List.length_append, List.length_singleton] at h3; omega
        · cases l with
          | nil => exact absurd rfl hl
          | cons x r => simpa using h3
      have hd : ∀ c ∈ l, isDg c := fun x hx => h2 x (by simp [hx])
      have ihl := ih hl hd (.inr h0)
      have hpos : 1 ≤ dv l := by
        rcases Nat.eq_zero_or_pos (dv l) with e | e
        · exfalso
          rw [e, dec_small (by omega)] at ihl
          rw [← ihl] at h0
          exact h0 rfl
        · exact e
      rw [dv_snoc, dec_step (by omega), show (dv l * 10 + (c.toNat - 48)) / 10 = dv l by omega, show (dv l * 10 + (c.toNat - 48)) % 10 = c.toNat - 48 by omega, ihl, hu]
/-- Four digits more. -/
theorem dec_four {n : Nat} (h : 10000 ≤ n) : Lib.decDigits n = Lib.decDigits (n / 10000) ++ pad4 ((n % 10000 : Nat) : Int) := by
  rw [pad4_eq (by omega), dec_step (n := n) (by omega), dec_step (n := n / 10) (by omega), dec_step (n := n / 10 / 10) (by omega), dec_step (n := n / 10 / 10 / 10) (by omega)]
  simp only [List.append_assoc, List.cons_append, List.nil_append]
  rw [show n / 10 / 10 / 10 / 10 = n / 10000 by omega, show n / 10 / 10 / 10 % 10 = n % 10000 / 1000 by omega, show n / 10 / 10 % 10 = n % 10000 / 100 % 10 by omega, show n / 10 % 10 = n % 10000 / 10 % 10 by omega, show n % 10 = n % 10000 % 10 by omega]
/-- Digits of limbs are the number's. -/
theorem textR_digs (m : Nat) (h : 0 < m) : textR (digs m).reverse = Lib.decDigits m := by
  induction m using Nat.strongRecOn with
  | _ m ih =>
    rw [digs_pos h, List.reverse_cons]
    by_cases h1 : m / 10000 = 0
    · rw [h1, digs_zero, List.reverse_nil, List.nil_append, textR_one]
      congr 1; omega
    · rw [textR_snoc _ (by simpa [digs_nil] using h1), ih (m / 10000) (by omega) (by omega), ← dec_four (by omega)]
theorem natTB_digs (m : Nat) : natTB (digs m) = ⟨(Lib.decDigits m).toArray⟩ := by
  by_cases h : m = 0
  · subst h
    rw [digs_zero, dec_small (by omega)]; rfl
  · rw [natTB, if_neg (by simpa [digs_nil] using h), textR_digs m (by omega)]
end Go.PL

/- PlNum -/
namespace Go.PL
open Go
/-- A function of the library that gives two values, neither of memory. -/
theorem Says.scal2 {P : Program} {gl : GL} {f : FuncId} {fn : Func} {ds : List D} {u v : Value} (hf : P.funcs[f]? = some fn) (hn : (fn.name == "runtime.NumGoroutine") = false) (hb : fn.body.isNone = false)
    (h : ∀ (w : World) (Pr : Pro) (p : Place) (vals : Array Value), GOk gl w Pr p [] → (hl : vals.size = ds.length) → (∀ i (hi : i < ds.length), RelD w Pr ds[i] (vals[i]'(by omega))) → Calls P f vals w fun e w' => e = .returned (.tuple #[u, v]) ∧ RowKit.Below w.heap.size w w') :
    Says P gl f (ds.map .d) [] (.tup [.d (.val u), .d (.val v)]) [] := by
  refine ⟨⟨fn, hf, hn, hb⟩, fun w Pr p vals hM hG hl hr => (h w Pr p vals hG (by simpa using hl) fun i hi => ?_).mono fun e w' ⟨h1, h2⟩ => ⟨_, Pr, p, h1, Inv.grown hM h2, .tup rfl fun i hi => ?_⟩⟩
  · have h3 := hr i (by simpa using hi)
    rw [List.getElem_map] at h3
    generalize vals[i]'(by rw [hl]; simpa using hi) = v at h3 ⊢
    cases h3 with
    | d h3 => exact h3
  · rcases (show i = 0 ∨ i = 1 by simp at hi; omega) with rfl | rfl
    · exact .d (.val _)
    · exact .d (.val _)
/-- A function of the library that gives some values, none of memory. -/
theorem Says.scalN {P : Program} {gl : GL} {f : FuncId} {fn : Func} {ds : List D} {us : List Value} (hf : P.funcs[f]? = some fn) (hn : (fn.name == "runtime.NumGoroutine") = false) (hb : fn.body.isNone = false)
    (h : ∀ (w : World) (Pr : Pro) (p : Place) (vals : Array Value), GOk gl w Pr p [] → (hl : vals.size = ds.length) → (∀ i (hi : i < ds.length), RelD w Pr ds[i] (vals[i]'(by omega))) → Calls P f vals w fun e w' => e = .returned (.tuple us.toArray) ∧ RowKit.Below w.heap.size w w') :
    Says P gl f (ds.map .d) [] (.tup (us.map fun u => .d (.val u))) [] := by
  refine ⟨⟨fn, hf, hn, hb⟩, fun w Pr p vals hM hG hl hr => (h w Pr p vals hG (by simpa using hl) fun i hi => ?_).mono fun e w' ⟨h1, h2⟩ => ⟨_, Pr, p, h1, Inv.grown hM h2, .tup (by simp) fun i hi => ?_⟩⟩
  · have h3 := hr i (by simpa using hi)
    rw [List.getElem_map] at h3
    generalize vals[i]'(by rw [hl]; simpa using hi) = v at h3 ⊢
    cases h3 with
    | d h3 => exact h3
  · simp only [List.getElem_map, List.getElem_toArray]
    exact .d (.val _)
theorem digitVal_of {c : UInt8} (h : isDg c) : Lib.digitVal c = some (c.toNat - 48) := by unfold Lib.digitVal; exact if_pos h
theorem decFrom_of : ∀ (l : List UInt8) (acc : Nat), (∀ c ∈ l, isDg c) → Lib.decFrom acc l = some (acc * 10 ^ l.length + dv l)
  | [], acc, _ => by simp [Lib.decFrom, dv_nil]
  | c :: r, acc, h => by
    have e : Lib.decFrom acc (c :: r) = Lib.decFrom (acc * 10 + (c.toNat - 48)) r := by
      show (match Lib.digitVal c with | some d => Lib.decFrom (acc * 10 + d) r | none => none) = _
      rw [digitVal_of (h c (by simp))]
    rw [e, decFrom_of r _ fun x hx => h x (by simp [hx])]
    have := dv_app [c] r
    rw [dv_one] at this
    rw [show c :: r = [c] ++ r from rfl, this, List.length_append, List.length_singleton, Nat.add_comm 1, Nat.pow_succ]
    congr 1
    grind
theorem atoi_of {l : List UInt8} (h : ∀ c ∈ l, isDg c) (h1 : 1 ≤ l.length) : Lib.atoi l = some (dv l : Int) := by
  cases l with
  | nil => simp at h1
  | cons c r =>
    have hc := h c (by simp)
    have n1 : (c == 45) = false := by rw [beq_eq_false_iff_ne]; rintro rfl; unfold isDg at hc; simp at hc
    have n2 : (c == 43) = false := by rw [beq_eq_false_iff_ne]; rintro rfl; unfold isDg at hc; simp at hc
    unfold Lib.atoi
    simp only [n1, n2]
    show (Lib.decNat (c :: r)).map (fun m : Nat => (m : Int)) = _
    unfold Lib.decNat
    rw [if_neg (by simp), decFrom_of _ _ h]
    simp
end Go.PL

/- PlFast -/
namespace Go.PL
open Go
/-- The operations that an operation waits for at once. -/
def deps (all : Array Oper) (j : Nat) : List Nat := ((all[j]?).map fun o => o.after.toList.filterMap fun e => if Region.binds .any e then some e.on else none).getD []
/-- A table of all that each operation waits for. -/
def tabOk (all : Array Oper) (T : List (List Nat)) : Bool := (List.range all.size).all fun j =>
  (deps all j).all (fun d => decide (d < j)) && (T.getD j []).all (fun i => (deps all j).any fun d => i == d || (T.getD d []).contains i) &&
  (deps all j).all (fun d => (T.getD j []).contains d && (T.getD d []).all fun i => (T.getD j []).contains i)
def drawF (all : Array Oper) (T : List (List Nat)) : Bool := tabOk all T && (List.range all.size).all fun j =>
  (T.getD j []).all (fun i => decide (i < j)) && (List.range all.size).all fun i => (match all[i]?, all[j]? with
    | some a, some b => a.dst.toList.all fun t => (!(readTmps all b).contains t || (T.getD j []).contains i) && (i == j || !(b.dst == some t))
    | _, _ => false)
theorem mem_waits {all : Array Oper} {k j i : Nat} : i ∈ waits all (k + 1) j ↔ ∃ d ∈ deps all j, i = d ∨ i ∈ waits all k d := by
  show i ∈ ((all[j]?).map fun o => o.after.toList.flatMap fun e => if Region.binds .any e then e.on :: waits all k e.on else []).getD [] ↔ _
  unfold deps
  cases all[j]? with
  | none => simp
  | some o =>
    simp only [Option.map_some, Option.getD_some, List.mem_flatMap, List.mem_filterMap]
    constructor
    · rintro ⟨e, he, hi⟩
      split at hi
      · rename_i hb
        refine ⟨e.on, ⟨e, he, by rw [if_pos hb]⟩, ?_⟩
        rcases List.mem_cons.1 hi with h | h
        · exact .inl h
        · exact .inr h
      · cases hi
    · rintro ⟨d, ⟨e, he, hd⟩, hi⟩
      split at hd
      · rename_i hb
        obtain rfl := Option.some.inj hd
        exact ⟨e, he, by rw [if_pos hb]; exact List.mem_cons.2 hi⟩
      · cases hd
theorem waits_tab {all : Array Oper} {T : List (List Nat)} (h : tabOk all T = true) : ∀ n j, j < n → j < all.size → ∀ i, i ∈ waits all n j ↔ i ∈ T.getD j []
  | 0, _, hj, _, _ => by omega
  | n + 1, j, hj, hs, i => by
    have hj' := List.all_eq_true.1 h j (List.mem_range.2 hs)
    simp only [Bool.and_eq_true, List.all_eq_true, List.any_eq_true, decide_eq_true_eq, Bool.or_eq_true, beq_iff_eq, List.contains_iff_mem] at hj'
    obtain ⟨⟨h1, h2⟩, h3⟩ := hj'
    rw [mem_waits]
    constructor
    · rintro ⟨d, hd, rfl | hi⟩
      · exact (h3 _ hd).1
      · exact (h3 d hd).2 i ((waits_tab h n d (by have := h1 d hd; omega) (by have := h1 d hd; omega) i).1 hi)
    · intro hi
      obtain ⟨d, hd, rfl | hi2⟩ := h2 i hi
      · exact ⟨_, hd, .inl rfl⟩
      · exact ⟨d, hd, .inr ((waits_tab h n d (by have := h1 d hd; omega) (by have := h1 d hd; omega) i).2 hi2)⟩
theorem drawSOk_of {all : Array Oper} {T : List (List Nat)} (h : drawF all T = true) : drawSOk all [] .done = true := by
  unfold drawF at h
  rw [Bool.and_eq_true] at h
  obtain ⟨ht, h⟩ := h
  unfold drawSOk
  simp only [headsOk, treeSub, List.all_nil, Bool.and_true, List.contains_nil, Bool.false_or, Bool.not_false]
  rw [List.all_eq_true] at h ⊢
  intro j hj
  have hj2 := List.mem_range.1 hj
  have hw := waits_tab ht all.size j hj2 hj2
  have hc : ∀ i, (waits all all.size j).contains i = (T.getD j []).contains i := fun i => by
    rw [Bool.eq_iff_iff, List.contains_iff_mem, List.contains_iff_mem]; exact hw i
  have := h j hj
  rw [Bool.and_eq_true, List.all_eq_true] at this
  obtain ⟨h1, h2⟩ := this
  simp only [Bool.and_eq_true, List.all_eq_true]
  refine ⟨⟨fun i hi => h1 i ((hw i).1 hi), fun _ _ => trivial⟩, ?_⟩
  intro i hi
  have := List.all_eq_true.1 h2 i hi
  simp only [hc]
  exact this
variable {T : Tab} {C : Call} {nF : Nat} {s : St} {Q : Ex → St → Prop}
theorem Wp.drawFR {id : Nat} {l : List Oper} (W : List (List Nat)) (m : List Bool) (hd : (drawF l.toArray W && (qMask [] 0 l == m)) = true) (h : qA T C nF (qSelB m (resL (dsts l) l)) s (fun s' => trR T C nF (resT (resL (dsts l) l) .done) s' (Q .normal))) : Wp T C nF (.region id l.toArray true) s Q := by
  rw [Bool.and_eq_true] at hd
  exact .drawSR [] m .done (by rw [drawSOk_of hd.1, Bool.true_and]; exact hd.2) h
end Go.PL

/- PlFine -/
/- The steps of the walk gathered: each theorem carries its own text. -/
namespace Go.PL
open Go
section
variable {T : Tab} {C : Call} {nF : Nat} {s : St} {Q' : Ex → St → Prop} {K : St → Prop} {R : Prop}
instance {l : List RO} : Sx (qA T C nF l s K) := ⟨⟩
instance {l : List RO} : Sx (lateR T C nF l s R) := ⟨⟩
instance {t : RT} : Sx (trR T C nF t s K) := ⟨⟩
end
/-- What simp does. -/
theorem nx' {P Q : Prop} [Sx P] (h : Q) (e : P = Q := by simp -implicitDefEqProofs (disch := omega) only [go_sem]; exact rfl) : P := e ▸ h
/-- A step that is told by its form. -/
class Sp (P : Prop) (Q : outParam Prop) : Prop where
  h : Q → P
section
variable {T : Tab} {C : Call} {nF : Nat} {s : St} {Q : Ex → St → Prop} {K : St → Prop} {A B : Prop}
instance {id : Nat} {l : List Oper} : Sp (Wp T C nF (.region id l.toArray false) s Q) (opsR T C nF (resL (dsts l) l) s (Q .normal)) := ⟨rR⟩
instance : Sp (Wp T C nF .skip s Q) (Q .normal s) := ⟨Wp.skip⟩
instance : Sp (Wp T C nF .ret s Q) (Q .ret s) := ⟨Wp.ret⟩
instance {n : Nat} : Sp (Wp T C nF (.exit n) s Q) (Q (.exit n) s) := ⟨Wp.exit⟩
instance {l : Nat} : Sp (Wp T C nF (.label l) s Q) (Q .normal s) := ⟨Wp.label⟩
instance : Sp (bcase (.d (.val (.bool true))) A B) A := ⟨bcaseT⟩
instance : Sp (bcase (.d (.val (.bool false))) A B) B := ⟨bcaseF⟩
instance : Sp (gcase (.d (.val (.bool true))) true A B) A := ⟨gcaseTT⟩
instance : Sp (gcase (.d (.val (.bool true))) false A B) B := ⟨gcaseTF⟩
instance : Sp (gcase (.d (.val (.bool false))) true A B) B := ⟨gcaseFT⟩
instance : Sp (gcase (.d (.val (.bool false))) false A B) A := ⟨gcaseFF⟩
instance {w : Bool} : Sp (gcase undefV w A B) B := ⟨gcaseU⟩
end
theorem n0 {P Q : Prop} [i : Sp P Q] (h : Q) : P := i.h h
/-- A step with one goal behind it. -/
theorem n1 {P Q : Prop} (h : Q) (e : Q → P := by
  first
  | exact fun h => wE h | exact fun h => wG h | exact fun h => an h | exact r1_append
  | exact fun h => wGq h | exact nilB_pos (by omega) | exact fun h => wGqA h | exact fun h => wGl h | exact fun h => wGt2 h | fail) : P := e h
/-- A call by a contract that is looked up. -/
theorem nP {P pre Q : Prop} (h : pre) (h2 : Q) (e : pre → Q → P := by
  intro a b
  first
  | ((first | refine wC ?_ | refine wC0 ?_); first | exact pN a rfl b | (refine pcDn ?_; exact pN a rfl b))
  | (refine wCq ?_; first | exact pQ a rfl (.inl rfl) b | exact pQ a rfl (.inr rfl) b | (refine pcDQn ?_; first | exact pQ a rfl (.inl rfl) b | exact pQ a rfl (.inr rfl) b | fail))
  | fail) : P := e h h2
/-- A call by a contract that is named. -/
theorem nPc {C : Call} {n : FuncId} {vs : List V} {r : V} {P Q : Prop} (hc : C n vs [] r []) (h2 : Q) (e : C n vs [] r [] → Q → P := by
  intro a b
  first
  | ((first | refine wC ?_ | refine wC0 ?_); first | exact pNc a rfl b | (refine pcDn ?_; exact pNc a rfl b))
  | (refine wCq ?_; first | exact pQc a rfl (.inl rfl) b | exact pQc a rfl (.inr rfl) b | (refine pcDQn ?_; first | exact pQc a rfl (.inl rfl) b | exact pQc a rfl (.inr rfl) b | fail))
  | fail) : P := e hc h2
/-- What is left to be done behind is named. -/
theorem nS {P : Prop} {A : St → Prop} {B : (St → Prop) → Prop} (h : ∀ K, Imp A K → B K) (e : (∀ K, Imp A K → B K) → P := by first | exact wS | exact wB | fail) : P := e h
/-- A condition that is not known. -/
theorem n2 {P A B c d : Prop} (h1 : c → A) (h2 : d → B) (e : (c → A) → (d → B) → P := by
  first
  | (refine fun a b => bcase_s (fun h => a ?_) (fun h => b ?_) <;> first | (simp only [FX, LX] at h; exact h) | exact h)
  | (refine fun a b => gcase_st (fun h => Eq.mpr ?_ (a ?_)) (fun h => Eq.mpr ?_ (b ?_)) <;> first | (simp only [FX, LX] at h; exact h) | exact h | (simp only [h]; exact rfl) | exact rfl)
  | (refine fun a b => gcase_sf (fun h => Eq.mpr ?_ (a ?_)) (fun h => Eq.mpr ?_ (b ?_)) <;> first | (simp only [FX, LX] at h; exact h) | exact h | (simp only [h]; exact rfl) | exact rfl)
  | fail) : P := e h1 h2
theorem nK {K A : St → Prop} {s : St} {Q : Prop} (hK : Imp A K) (h : Q) (e : A s = Q := by (try simp only [TX, Nat.reduceBEq]); exact rfl) : K s := hK s (e ▸ h)
theorem nl {P : Prop} (e : P := by first | assumption | omega | exact trivial | (simp only [LX]; omega) | fail) : P := e
section
variable {nF : Nat} {env env' : List (Nat × V)} {os os' tl : List Ob}
theorem Weak.lo (h : sub env env' := by (simp -implicitDefEqProofs (disch := omega) only [go_sem, sub_nil, sub_cons, LX]; try ((repeat' refine And.intro ?_ ?_) <;> first | rfl | trivial | (congr 3; omega) | (congr 1; omega)))) : Weak nF ⟨env, os⟩ ⟨env', os⟩ := .env h rfl
theorem Weak.cu (h : sub env env' := by (simp -implicitDefEqProofs (disch := omega) only [go_sem, sub_nil, sub_cons, LX]; try ((repeat' refine And.intro ?_ ?_) <;> first | rfl | trivial | (congr 3; omega) | (congr 1; omega))))
    (ho : os = os' ++ tl := by exact rfl) (hn : nF ≤ os'.length := by simp) (h1 : (env'.all fun p => p.2.bnd os'.length) = true := by exact rfl) (h2 : (os'.all (Ob.bnd os'.length)) = true := by exact rfl) :
    Weak nF ⟨env, os⟩ ⟨env', os'⟩ := .drop tl hn h ho h1 h2
end
end Go.PL
