/- A plain machine, sound for the given model, and contracts of functions over it, part 31: PlDec PlSpl. Nothing is assumed. -/
import Derived.Test.YtgfncbcnplfpdabGreatDoorG30
import Derived.Lib.SplitLaws
import Derived.Lib.Join
set_option linter.unusedSimpArgs false
set_option linter.unusedVariables false
set_option linter.unusedSectionVars false
/- PlDec -/
/- Decimal digits read: what a text of digits stands for, and its limbs of four digits. -/
namespace Go.PL
open Go
def isDg (c : UInt8) : Prop := 48 ≤ c.toNat ∧ c.toNat ≤ 57
instance (c : UInt8) : Decidable (isDg c) := by unfold isDg; infer_instance
/-- What a digit stands for. -/
def dgN (c : UInt8) : Nat := c.toNat - 48
/-- What digits stand for, the last one first. -/
def dvR : List UInt8 → Nat
  | [] => 0
  | c :: r => dgN c + 10 * dvR r
def dv (l : List UInt8) : Nat := dvR l.reverse
theorem dvR_app (l m : List UInt8) : dvR (l ++ m) = dvR l + 10 ^ l.length * dvR m := by
  induction l with
  | nil => rw [List.nil_append, List.length_nil, Nat.pow_zero, Nat.one_mul]; exact (Nat.zero_add _).symm
  | cons c r ih =>
    rw [List.cons_append, List.length_cons, Nat.pow_succ]
    show dgN c + 10 * dvR (r ++ m) = dgN c + 10 * dvR r + 10 ^ r.length * 10 * dvR m
    rw [ih, Nat.mul_add, Nat.add_assoc, Nat.mul_comm (10 ^ r.length) 10, Nat.mul_assoc]
theorem dv_app (l m : List UInt8) : dv (l ++ m) = dv l * 10 ^ m.length + dv m := by
  unfold dv
  rw [List.reverse_append, dvR_app, List.length_reverse, Nat.mul_comm, Nat.add_comm]
theorem dv_one (c : UInt8) : dv [c] = c.toNat - 48 := by
  show dgN c + 10 * 0 = _
  rw [Nat.mul_zero]; rfl
theorem dv_snoc (l : List UInt8) (c : UInt8) : dv (l ++ [c]) = dv l * 10 + (c.toNat - 48) := by
  rw [dv_app, dv_one]; rfl
theorem dv_nil : dv [] = 0 := rfl
theorem snocRec {motive : List UInt8 → Prop} (h0 : motive []) (h1 : ∀ l c, motive l → motive (l ++ [c])) : ∀ l, motive l := by
  intro l
  have key : ∀ r : List UInt8, motive r.reverse := by
    intro r
    induction r with
    | nil => exact h0
    | cons c r ih => rw [List.reverse_cons]; exact h1 _ _ ih
  have := key l.reverse
  rwa [List.reverse_reverse] at this
theorem dv_lt {l : List UInt8} (h : ∀ c ∈ l, isDg c) : dv l < 10 ^ l.length := by
  induction l using snocRec with
  | h0 => exact Nat.one_pos
  | h1 l c ih =>
    have h1 := ih fun x hx => h x (by simp [hx])
    have h2 := h c (by simp)
    unfold isDg at h2
    rw [dv_snoc, List.length_append, List.length_singleton, Nat.pow_succ]
    generalize 10 ^ l.length = p at *
    omega
theorem ofNat_toNat {n : Nat} (h : n < 256) : (UInt8.ofNat n).toNat = n := by simp [UInt8.toNat_ofNat']; omega
theorem dec_dig (n : Nat) : ∀ c ∈ Lib.decDigits n, isDg c := by
  induction n using Nat.strongRecOn with
  | _ n ih =>
    by_cases h : n < 10
    · rw [dec_small h]
      intro c hc
      rw [List.mem_singleton] at hc
      subst hc
      unfold isDg
      rw [ofNat_toNat (by omega)]; omega
    · rw [dec_step (by omega)]
      intro c hc
      rw [List.mem_append, List.mem_singleton] at hc
      rcases hc with hc | rfl
      · exact ih (n / 10) (by omega) c hc
      · unfold isDg
        rw [ofNat_toNat (by omega)]; omega
theorem dv_dec (n : Nat) : dv (Lib.decDigits n) = n := by
  induction n using Nat.strongRecOn with
  | _ n ih =>
    by_cases h : n < 10
    · rw [dec_small h, dv_one, ofNat_toNat (by omega)]; omega
    · rw [dec_step (by omega), dv_snoc, ih (n / 10) (by omega), ofNat_toNat (by omega)]; omega
theorem dec_inj {m n : Nat} (h : Lib.decDigits m = Lib.decDigits n) : m = n := by
  rw [← dv_dec m, h, dv_dec]
theorem dec_ne (n : Nat) : Lib.decDigits n ≠ [] := by
  by_cases h : n < 10
  · rw [dec_small h]; simp
  · rw [dec_step (by omega)]; simp
/-- Digits as a number's text has them: no nought ahead of another. -/
def okDg (l : List UInt8) : Prop := l ≠ [] ∧ (∀ c ∈ l, isDg c) ∧ (l.length = 1 ∨ l.getD 0 0 ≠ 48)
theorem dec_ok (n : Nat) : okDg (Lib.decDigits n) := by
  refine ⟨dec_ne n, dec_dig n, ?_⟩
  induction n using Nat.strongRecOn with
  | _ n ih =>
    by_cases h : n < 10
    · rw [dec_small h]; simp
    · have h1 := ih (n / 10) (by omega)
      have h2 := dec_ne (n / 10)
      have h4 := dv_dec (n / 10)
      have h5 := dec_dig (n / 10)
      rw [dec_step (by omega)]
      right
      cases hd : Lib.decDigits (n / 10) with
      | nil => exact absurd hd h2
      | cons c r =>
        rw [hd] at h1 h4 h5
        simp only [List.cons_append, List.getD_cons_zero]
        rcases h1 with h1 | h1
        · have : r = [] := List.eq_nil_of_length_eq_zero (by simpa using h1)
          subst this
          rw [dv_one] at h4
          rintro rfl
          have : (48 : UInt8).toNat = 48 := rfl
          omega
        · simpa using h1
theorem dec_of {l : List UInt8} (h : okDg l) : Lib.decDigits (dv l) = l := by
  obtain ⟨h1, h2, h3⟩ := h
  induction l using snocRec with
  | h0 => exact absurd rfl h1
  | h1 l c ih =>
    have hc := h2 c (by simp)
    unfold isDg at hc
    have hu : UInt8.ofNat (48 + (c.toNat - 48)) = c := by
      rw [show 48 + (c.toNat - 48) = c.toNat by omega]; simp
    by_cases hl : l = []
    · subst hl
      rw [List.nil_append, dv_one, dec_small (by omega), hu]
    · have h0 : l.getD 0 0 ≠ 48 := by
        rcases h3 with h3 | h3
        · exfalso
          have : 0 < l.length := List.length_pos_iff.2 hl
          rw [List.length_append, List.length_singleton] at h3; omega
        · cases l with
          | nil => exact absurd rfl hl
          | cons x r => simpa using h3
      have hd : ∀ c ∈ l, isDg c := fun x hx => h2 x (by simp [hx])
      have ihl := ih hl hd (.inr h0)
      have hpos : 1 ≤ dv l := by
        rcases Nat.eq_zero_or_pos (dv l) with e | e
        · exfalso
          rw [e, dec_small (by omega)] at ihl
          rw [← ihl] at h0
          exact h0 rfl
        · exact e
      rw [dv_snoc, dec_step (by omega), show (dv l * 10 + (c.toNat - 48)) / 10 = dv l by omega, show (dv l * 10 + (c.toNat - 48)) % 10 = c.toNat - 48 by omega, ihl, hu]
/-- Four digits more. -/
theorem dec_four {n : Nat} (h : 10000 ≤ n) : Lib.decDigits n = Lib.decDigits (n / 10000) ++ pad4 ((n % 10000 : Nat) : Int) := by
  rw [pad4_eq (by omega), dec_step (n := n) (by omega), dec_step (n := n / 10) (by omega), dec_step (n := n / 10 / 10) (by omega), dec_step (n := n / 10 / 10 / 10) (by omega)]
  simp only [List.append_assoc, List.cons_append, List.nil_append]
  rw [show n / 10 / 10 / 10 / 10 = n / 10000 by omega, show n / 10 / 10 / 10 % 10 = n % 10000 / 1000 by omega, show n / 10 / 10 % 10 = n % 10000 / 100 % 10 by omega, show n / 10 % 10 = n % 10000 / 10 % 10 by omega, show n % 10 = n % 10000 % 10 by omega]
/-- Digits of limbs are the number's. -/
theorem textR_digs (m : Nat) (h : 0 < m) : textR (digs m).reverse = Lib.decDigits m := by
  induction m using Nat.strongRecOn with
  | _ m ih =>
    rw [digs_pos h, List.reverse_cons]
    by_cases h1 : m / 10000 = 0
    · rw [h1, digs_zero, List.reverse_nil, List.nil_append, textR_one]
      congr 1; omega
    · rw [textR_snoc _ (by simpa [digs_nil] using h1), ih (m / 10000) (by omega) (by omega), ← dec_four (by omega)]
theorem natTB_digs (m : Nat) : natTB (digs m) = ⟨(Lib.decDigits m).toArray⟩ := by
  by_cases h : m = 0
  · subst h
    rw [digs_zero, dec_small (by omega)]; rfl
  · rw [natTB, if_neg (by simpa [digs_nil] using h), textR_digs m (by omega)]
end Go.PL

/- PlSpl -/
/- Texts parted at a byte. -/
namespace Go.PL
open Go
/-- The pieces between the instances of a byte. -/
def spl (c : UInt8) : List UInt8 → List (List UInt8)
  | [] => [[]]
  | x :: r => if x = c then [] :: spl c r else match spl c r with
    | h :: t => (x :: h) :: t
    | [] => [[x]]
theorem spl_nil (c : UInt8) : spl c [] = [[]] := rfl
theorem spl_ne (c : UInt8) : ∀ l, spl c l ≠ []
  | [] => by simp [spl]
  | x :: r => by
    unfold spl
    split
    · simp
    · split <;> simp
theorem spl_eq (c : UInt8) (r : List UInt8) : spl c (c :: r) = [] :: spl c r := by rw [spl, if_pos rfl]
theorem spl_cons {c x : UInt8} (r : List UInt8) (h : x ≠ c) : ∃ a t, spl c r = a :: t ∧ spl c (x :: r) = (x :: a) :: t := by
  cases hs : spl c r with
  | nil => exact absurd hs (spl_ne c r)
  | cons a t => exact ⟨a, t, rfl, by rw [spl, if_neg h, hs]⟩
theorem spl_free {c : UInt8} {w : List UInt8} (h : c ∉ w) : spl c w = [w] := by
  induction w with
  | nil => rfl
  | cons x r ih =>
    have h1 : x ≠ c := fun e => h (by simp [e])
    obtain ⟨a, t, e1, e2⟩ := spl_cons r h1
    rw [ih fun hc => h (by simp [hc])] at e1
    cases e1
    exact e2
theorem spl_app {c : UInt8} {w : List UInt8} (r : List UInt8) (h : c ∉ w) : spl c (w ++ c :: r) = w :: spl c r := by
  induction w with
  | nil => exact spl_eq c r
  | cons x v ih =>
    have h1 : x ≠ c := fun e => h (by simp [e])
    obtain ⟨a, t, e1, e2⟩ := spl_cons (v ++ c :: r) h1
    rw [ih fun hc => h (by simp [hc])] at e1
    cases e1
    exact e2
/-- No piece has the byte. -/
theorem spl_mem {c : UInt8} : ∀ {l w : List UInt8}, w ∈ spl c l → c ∉ w
  | [], w, h => by
    rw [spl_nil, List.mem_singleton] at h
    subst h; simp
  | x :: r, w, h => by
    by_cases hx : x = c
    · subst hx
      rw [spl_eq, List.mem_cons] at h
      rcases h with rfl | h
      · simp
      · exact spl_mem h
    · obtain ⟨a, t, e1, e2⟩ := spl_cons r hx
      rw [e2, List.mem_cons] at h
      rcases h with rfl | h
      · have := spl_mem (c := c) (l := r) (w := a) (by rw [e1]; simp)
        rw [List.mem_cons]
        rintro (e | e)
        · exact hx e.symm
        · exact this e
      · exact spl_mem (l := r) (by rw [e1]; simp [h])
/-- The rest behind the first piece, each piece with the byte ahead. -/
def tailS (c : UInt8) (ws : List (List UInt8)) : List UInt8 := (ws.map fun w => c :: w).flatten
def joinS (c : UInt8) : List (List UInt8) → List UInt8
  | [] => []
  | w :: r => w ++ tailS c r
theorem joinS_eq (c : UInt8) (ws : List (List UInt8)) : Lib.join ws [c] = joinS c ws := by
  match ws with
  | [] => rw [Lib.join_nil]; rfl
  | w :: r =>
    rw [Lib.join_cons]
    have : ∀ r : List (List UInt8), Lib.joinTail [c] r = tailS c r := by
      intro r
      induction r with
      | nil => rfl
      | cons x r ih =>
        have e : Lib.joinTail [c] (x :: r) = [c] ++ x ++ Lib.joinTail [c] r := by simp [Lib.joinTail]
        rw [e, ih]; simp [tailS]
    rw [this]; rfl
theorem joinS_spl (c : UInt8) : ∀ l, joinS c (spl c l) = l
  | [] => rfl
  | x :: r => by
    by_cases hx : x = c
    · subst hx
      rw [spl_eq]
      have ih := joinS_spl x r
      cases hs : spl x r with
      | nil => exact absurd hs (spl_ne x r)
      | cons a t =>
        rw [hs] at ih
        show [] ++ tailS x (a :: t) = _
        rw [List.nil_append]
        show (x :: a) ++ tailS x t = _
        rw [List.cons_append]
        exact congrArg (x :: ·) ih
    · obtain ⟨a, t, e1, e2⟩ := spl_cons r hx
      have ih := joinS_spl c r
      rw [e1] at ih
      rw [e2]
      exact congrArg (x :: ·) ih
theorem spl_joinS {c : UInt8} : ∀ {ws : List (List UInt8)}, ws ≠ [] → (∀ w ∈ ws, c ∉ w) → spl c (joinS c ws) = ws
  | [], h, _ => absurd rfl h
  | [w], _, h => by
    show spl c (w ++ []) = _
    rw [List.append_nil]; exact spl_free (h w (by simp))
  | w :: v :: r, _, h => by
    have ih := spl_joinS (ws := v :: r) (by simp) fun x hx => h x (by simp only [List.mem_cons] at hx ⊢; exact .inr hx)
    have e : joinS c (w :: v :: r) = w ++ c :: joinS c (v :: r) := by
      show w ++ tailS c (v :: r) = _
      simp [tailS, joinS]
    rw [e, spl_app _ (h w (by simp)), ih]
theorem joinS_inj {c : UInt8} {ws vs : List (List UInt8)} (h1 : ws ≠ []) (h2 : vs ≠ []) (h3 : ∀ w ∈ ws, c ∉ w) (h4 : ∀ w ∈ vs, c ∉ w) (h : joinS c ws = joinS c vs) : ws = vs := by
  rw [← spl_joinS h1 h3, h, spl_joinS h2 h4]
theorem joinS_app {c : UInt8} : ∀ {ws vs : List (List UInt8)}, ws ≠ [] → vs ≠ [] → joinS c (ws ++ vs) = joinS c ws ++ c :: joinS c vs
  | [], _, h, _ => absurd rfl h
  | w :: r, [], _, h => absurd rfl h
  | w :: r, v :: s, _, _ => by simp [joinS, tailS]

/-- Where a byte comes first. -/
theorem first_at {c : UInt8} {l : List UInt8} (h : c ∈ l) : ∃ w r, l = w ++ c :: r ∧ c ∉ w := by
  induction l with
  | nil => cases h
  | cons x s ih =>
    by_cases hx : x = c
    · exact ⟨[], s, by rw [hx]; rfl, by simp⟩
    · obtain ⟨w, r, e, hw⟩ := ih (by
        rcases List.mem_cons.1 h with e | e
        · exact absurd e.symm hx
        · exact e)
      refine ⟨x :: w, r, by rw [e]; rfl, ?_⟩
      rw [List.mem_cons]
      rintro (e | e)
      · exact hx e.symm
      · exact hw e
theorem index_none1 {c : UInt8} {l : List UInt8} (h : c ∉ l) : Lib.index l [c] = -1 := by
  refine Lib.index_none fun j _ => ?_
  cases ho : Lib.occAt l [c] j with
  | false => rfl
  | true =>
    have := Lib.occAt_head (t := []) rfl ho
    exact absurd (List.mem_of_getElem? this) h
theorem index_at1 {c : UInt8} {w r : List UInt8} (h : c ∉ w) : Lib.index (w ++ c :: r) [c] = w.length := by
  refine Lib.index_first (by simp) ?_ fun j hj => ?_
  · simp [Lib.occAt, List.isPrefixOf]
  · cases ho : Lib.occAt (w ++ c :: r) [c] j with
    | false => rfl
    | true =>
      have := Lib.occAt_head (t := []) rfl ho
      rw [List.getElem?_append_left hj] at this
      exact absurd (List.mem_of_getElem? this) h
theorem split_spl (c : UInt8) (l : List UInt8) : Lib.split l [c] = spl c l := by
  generalize hn : l.length = n
  induction n using Nat.strongRecOn generalizing l with
  | _ n ih =>
    unfold Lib.split
    by_cases h : c ∈ l
    · obtain ⟨w, r, rfl, hw⟩ := first_at h
      have hi := index_at1 (r := r) hw
      rw [Lib.count_hit (by simp) hi, Nat.add_comm, Lib.splitK, if_neg (by rw [hi]; simp), hi, spl_app r hw]
      have e1 : (w ++ c :: r).take ((w.length : Int).toNat + 0) = w := by simp
      have e2 : (w ++ c :: r).drop ((w.length : Int).toNat + [c].length) = r := by simp
      have e3 : (w ++ c :: r).drop (w.length + [c].length) = r := by simp
      rw [e1, e2, e3, ← ih r.length (by rw [← hn]; simp; omega) r rfl]
      rfl
    · rw [Lib.count_miss (index_none1 h), spl_free h]; rfl
end Go.PL
