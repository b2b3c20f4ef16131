/- A plain machine, sound for the given model, and contracts of functions over it, part 21: LX3 PlSrc. Nothing is assumed. -/
import Derived.Test.YtedbifiejciocacDoorG20
set_option linter.unusedSimpArgs false
set_option linter.unusedVariables false
set_option linter.unusedSectionVars false
/- LX3 -/
namespace Go.PL
open Go Go.Proofs
set_option maxRecDepth 10000
set_option maxHeartbeats 4000000
set_option linter.unusedSimpArgs false
set_option linter.unusedVariables false
theorem lex_c (l : List UInt8) (ks : List Tk) (hl : l.length ≤ 1048576) (hk : ks.length ≤ 400) (hx : LexTo l ks) : CC 21 [.d (.s (strT l))] [] (.tup [.d (.sl (ks.map encTk)), .d (.i 0)]) [] := by
  refine Den.pureI Tryd.func21 rfl 1 [.tmp 2, .tmp 3] (by kernel_rfl) rfl rfl (by simp only [initE_nil, initE_cons, Nat.reduceAdd]; exact rfl) ?_
  repeat' first | (with_reducible first | refine nx' ?_ | refine n0 ?_ | refine Wp.drawR (by decide +kernel) ?_ | refine Wp.drawSR [2, 3, 7, 8] [false, false, true, true, false, false, false, true, true] (.op 2 [0,4,5,6] (.op 3 [4,5,6] (.op 7 [4,5,6] (.op 8 [] .done)))) (by decide +kernel) ?_ | refine n1 ?_ | refine nilB_i fun b hb => ?_ | refine nP ?_ ?_ | refine nS fun K hK => ?_ | (refine n2 ?_ ?_ <;> intro h <;> first | subst (h : _ = true) | subst (h : _ = false) | skip) | refine And.intro ?_ ?_ | refine nK ‹Imp _ _› ?_) | exact nl | fail
  refine Wp.loopR (fun x : List UInt8 × List Tk => ⟨[(0, .d (.s (strT x.1))), (2, .d (.val (.slice none 0 0))), (3, .d (.i 0)), (4, .msl 0 0 x.2.length)], [.arr 3 (x.2.map encTk) false]⟩) (fun x => x.1.length) (fun x => x.1.length ≤ 1048576 ∧ ∃ r, LexTo x.1 r ∧ x.2 ++ r = ks) (l, []) Weak.lo ⟨hl, ks, hx, rfl⟩ ?_
  rintro ⟨t, out⟩ ⟨ht, r, hr, he⟩ K hK
  simp only at ht hr he ⊢
  have htl := trimS_len t
  have hsz : (strT (trimS t)).size = (trimS t).length := strT_size
  cases hr with
  | nil h0 =>
    have q0 : ((strT (trimS t)).toList == (⟨#[]⟩ : ByteArray).toList) = true := by rw [sNil, strT_eq, h0]; rfl
    rw [List.append_nil] at he
    subst he
    repeat' first | (with_reducible first | refine nx' ?_ (by simp -implicitDefEqProofs (disch := omega) only [go_sem, q0, hsz]; exact rfl) | refine n0 ?_ | refine Wp.drawR (by decide +kernel) ?_ | refine Wp.drawSR [2, 3, 7, 8] [false, false, true, true, false, false, false, true, true] (.op 2 [0,4,5,6] (.op 3 [4,5,6] (.op 7 [4,5,6] (.op 8 [] .done)))) (by decide +kernel) ?_ | refine n1 ?_ | refine nilB_i fun b hb => ?_ | refine nP ?_ ?_ | refine nS fun K hK => ?_ | (refine n2 ?_ ?_ <;> intro h <;> first | subst (h : _ = true) | subst (h : _ = false) | (simp only [FX, LX, q0, hsz] at h) | skip) | refine And.intro ?_ ?_ | refine nK ‹Imp _ _› ?_) | exact nl | fail
    all_goals first | rfl | skip
  | cons h1 h2 h3 h4 h5 h6 =>
    rename_i k n rs
    have q0 : ((strT (trimS t)).toList == (⟨#[]⟩ : ByteArray).toList) = false := by
      rw [sNil, strT_eq, decide_eq_false_iff_not]
      intro q; rw [q] at h1; simp at h1
    have hx2 : (strT (trimS t)).extract n (trimS t).length = strT ((trimS t).drop n) := by rw [strT_ext, List.take_of_length_le (by simp)]
    have hlen : out.length + (rs.length + 1) ≤ 400 := by rw [← he] at hk; simpa using hk
    repeat' first | (with_reducible first | refine nx' ?_ (by simp -implicitDefEqProofs (disch := omega) only [go_sem, q0, hsz, h3, hx2]; exact rfl) | refine n0 ?_ | refine Wp.drawR (by decide +kernel) ?_ | refine Wp.drawSR [2, 3, 7, 8] [false, false, true, true, false, false, false, true, true] (.op 2 [0,4,5,6] (.op 3 [4,5,6] (.op 7 [4,5,6] (.op 8 [] .done)))) (by decide +kernel) ?_ | refine n1 ?_ | refine nilB_i fun b hb => ?_ | refine nP ?_ ?_ | refine nS fun K hK => ?_ | (refine n2 ?_ ?_ <;> intro h <;> first | subst (h : _ = true) | subst (h : _ = false) | (simp only [FX, LX, q0, hsz, h3, hx2] at h) | skip) | refine And.intro ?_ ?_ | refine nK ‹Imp _ _› ?_) | exact nl | fail
    all_goals first
      | exact ⟨((trimS t).drop n, out ++ [k]), by simp only [List.length_drop]; omega, ⟨by simp only [List.length_drop]; omega, rs, h6, by simp [← he]⟩, Weak.cu⟩
      | skip
theorem Lex_c (l : List UInt8) (ks : List Tk) (hl : l.length ≤ 60000) (hk : ks.length ≤ 400) (hx : LexTo l ks) : CC 7 [.d (.s (strT l))] [] (.tup [.d (.sl (ks.map encTk)), .d (.i 0)]) [] := by
  have hL := lex_c l ks (by omega) hk hx
  have hsz : (strT l).size = l.length := strT_size
  have hlg : longI 65536 [(l.length : Int)] = 0 := longI_none fun t ht => by
    obtain rfl : t = 0 := by simpa using ht
    simp; omega
  refine Den.pureI Tryd.func7 rfl 1 [.tmp 2, .tmp 3] (by kernel_rfl) rfl rfl (by simp only [initE_nil, initE_cons, Nat.reduceAdd]; exact rfl) ?_
  repeat' first | (with_reducible first | refine nx' ?_ (by simp -implicitDefEqProofs (disch := omega) only [go_sem, hsz, hlg]; exact rfl) | refine n0 ?_ | refine rD ?_ | refine n1 ?_ | refine nilB_i fun b hb => ?_ | refine nPc (hL) ?_ | refine nP ?_ ?_ | refine nS fun K hK => ?_ | (refine n2 ?_ ?_ <;> intro h <;> first | subst (h : _ = true) | subst (h : _ = false) | (simp only [FX, LX, hsz, hlg] at h) | skip) | refine And.intro ?_ ?_ | refine nK ‹Imp _ _› ?_) | exact nl | fail
end Go.PL

/- PlSrc -/
/- Frames with a place that is told: methods of a pointer to a struct of three cells of data. -/
namespace Go.PL
open Go
theorem blt_mono {o n m : Nat} (h : Nat.blt o n = true) (hm : n ≤ m) : Nat.blt o m = true := by
  rw [Nat.blt_eq] at h ⊢; omega
theorem V.bnd1_mono {n m : Nat} (hm : n ≤ m) : ∀ {v : V}, V.bnd1 n v = true → V.bnd1 m v = true
  | .d _, _ => rfl
  | .any, _ => rfl
  | .ref .., h => blt_mono h hm
  | .msl .., h => blt_mono h hm
  | .agg _, h => by cases h
  | .fn .., h => by cases h
  | .tup _, h => by cases h
theorem all_mono {α : Type} {p q : α → Bool} {l : List α} (h : ∀ x, p x = true → q x = true) (hl : l.all p = true) : l.all q = true := by
  rw [List.all_eq_true] at hl ⊢; exact fun x hx => h x (hl x hx)
theorem V.bnd_mono {n m : Nat} (hm : n ≤ m) {v : V} (h : V.bnd n v = true) : V.bnd m v = true := by
  cases v with
  | agg cs => exact all_mono (fun _ => V.bnd1_mono hm) h
  | fn f a b =>
    simp only [V.bnd, Bool.and_eq_true] at h ⊢
    exact ⟨all_mono (fun _ => V.bnd1_mono hm) h.1, all_mono (fun _ => V.bnd1_mono hm) h.2⟩
  | d x => rfl
  | ref o i j => exact V.bnd1_mono (v := .ref o i j) hm h
  | msl o i j => exact V.bnd1_mono (v := .msl o i j) hm h
  | tup cs => exact V.bnd1_mono (v := .tup cs) hm h
  | any => rfl
theorem Ob.bnd_mono {n m : Nat} (hm : n ≤ m) {x : Ob} (h : Ob.bnd n x = true) : Ob.bnd m x = true := by
  cases x with
  | var cs fz => exact all_mono (fun _ => V.bnd_mono hm) h
  | arr => rfl
  | dead => rfl
theorem kill1_bnd {n k : Nat} (hk : n ≤ k) : ∀ {v : V}, V.bnd1 n v = true → kill1 k v = v
  | .d _, _ => rfl
  | .any, _ => rfl
  | .ref o i j, h => by
    have : Nat.beq o k = false := by
      rw [Bool.eq_false_iff]; intro e
      have := Nat.eq_of_beq_eq_true e
      simp only [V.bnd1, Nat.blt_eq] at h; omega
    simp [kill1, this]
  | .msl o i j, h => by
    have : Nat.beq o k = false := by
      rw [Bool.eq_false_iff]; intro e
      have := Nat.eq_of_beq_eq_true e
      simp only [V.bnd1, Nat.blt_eq] at h; omega
    simp [kill1, this]
  | .agg _, h => by cases h
  | .fn .., h => by cases h
  | .tup _, h => by cases h
theorem map_same {α : Type} {f : α → α} : ∀ {l : List α}, (∀ x ∈ l, f x = x) → l.map f = l
  | [], _ => rfl
  | x :: r, h => by rw [List.map_cons, h x (by simp), map_same fun y hy => h y (by simp [hy])]
theorem killL_bnd {n k : Nat} (hk : n ≤ k) {l : List V} (h : l.all (V.bnd1 n) = true) : l.map (kill1 k) = l := by
  rw [List.all_eq_true] at h
  exact map_same fun x hx => kill1_bnd hk (h x hx)
theorem kill_bnd {n k : Nat} (hk : n ≤ k) {v : V} (h : V.bnd n v = true) : PL.kill k v = v := by
  cases v with
  | agg cs => show V.agg (cs.map _) = _; rw [killL_bnd hk h]
  | fn f a b =>
    simp only [V.bnd, Bool.and_eq_true] at h
    show V.fn f (a.map _) (b.map _) = _
    rw [killL_bnd hk h.1, killL_bnd hk h.2]
  | d x => rfl
  | ref o i j => exact kill1_bnd (v := .ref o i j) hk h
  | msl o i j => exact kill1_bnd (v := .msl o i j) hk h
  | tup cs => cases h
  | any => rfl
theorem Ob.kill_bnd {n k : Nat} (hk : n ≤ k) {x : Ob} (h : Ob.bnd n x = true) : Ob.kill k x = x := by
  cases x with
  | var cs fz =>
    show Ob.var (cs.map _) fz = _
    have h' : cs.all (V.bnd n) = true := h
    rw [List.all_eq_true] at h'
    rw [map_same fun v hv => PL.kill_bnd hk (h' v hv)]
  | arr => rfl
  | dead => rfl
theorem modify_app {f : Ob → Ob} : ∀ (a l : List Ob) (k : Nat), (a ++ l).modify (a.length + k) f = a ++ l.modify k f
  | [], l, k => by simp
  | x :: r, l, k => by
    rw [List.length_cons, show r.length + 1 + k = r.length + k + 1 by omega, List.cons_append, List.modify_succ_cons, modify_app r l k]; rfl
theorem killO_bnd {n k : Nat} (hk : n ≤ k) {l : List Ob} (h : l.all (Ob.bnd n) = true) : killO k l = l := by
  rw [killO_eq]
  rw [List.all_eq_true] at h
  exact map_same fun x hx => Ob.kill_bnd hk (h x hx)
theorem all_set' {n : Nat} {os : List Ob} {o : Nat} {X : Ob} (h : os.all (Ob.bnd n) = true) (hx : Ob.bnd n X = true) : (os.set o X).all (Ob.bnd n) = true := by
  rw [List.all_eq_true] at h ⊢
  intro y hy
  rcases List.mem_or_eq_of_mem_set hy with h1 | h1
  · exact h y h1
  · rw [h1]; exact hx
/-- A frame with a place that is told. -/
class Fr (os : List Ob) (o : Nat) : Prop where
  lt : o < os.length
  bd : os.all (Ob.bnd os.length) = true
/-- A struct of three cells of data. -/
abbrev V3 (a b c : D) : Ob := .var [.d a, .d b, .d c] false
section
variable {os : List Ob} {o : Nat}
theorem Fr.g1 (h : Fr os o) : ∀ X, (os.set o X)[o]? = some X := fun X => by rw [List.getElem?_set_self h.lt]
theorem Fr.g2 (h : Fr os o) : ∀ X l, (os.set o X ++ l)[o]? = some X := fun X l => by rw [List.getElem?_append_left (by rw [List.length_set]; exact h.lt), h.g1]
theorem Fr.s1 (_h : Fr os o) : ∀ X Y : Ob, (os.set o X).set o Y = os.set o Y := fun X Y => by simp
theorem Fr.s2 (h : Fr os o) : ∀ (X Y : Ob) l, (os.set o X ++ l).set o Y = os.set o Y ++ l := fun X Y l => by rw [List.set_append_left _ _ (by rw [List.length_set]; exact h.lt), h.s1]
theorem Fr.n0 (_h : Fr os o) : ∀ (X : Ob) l, (os.set o X ++ l)[os.length]? = l[0]? := fun X l => by rw [List.getElem?_append_right (by simp), List.length_set, Nat.sub_self]
theorem Fr.n1 (_h : Fr os o) : ∀ (X : Ob) l k, (os.set o X ++ l)[os.length + k]? = l[k]? := fun X l k => by rw [List.getElem?_append_right (by simp), List.length_set, Nat.add_sub_cancel_left]
theorem Fr.t0 (_h : Fr os o) : ∀ (X Y : Ob) l, (os.set o X ++ l).set os.length Y = os.set o X ++ l.set 0 Y := fun X Y l => by rw [List.set_append_right _ _ (by simp), List.length_set, Nat.sub_self]
theorem Fr.t1 (_h : Fr os o) : ∀ (X Y : Ob) l k, (os.set o X ++ l).set (os.length + k) Y = os.set o X ++ l.set k Y := fun X Y l k => by rw [List.set_append_right _ _ (by simp), List.length_set, Nat.add_sub_cancel_left]
theorem Fr.l0 (_h : Fr os o) : ∀ X : Ob, (os.set o X).length = os.length := fun X => List.length_set
theorem Fr.l1 (_h : Fr os o) : ∀ (X : Ob) l, (os.set o X ++ l).length = os.length + l.length := fun X l => by rw [List.length_append, List.length_set]
theorem Fr.kA (h : Fr os o) {k : Nat} (hk : os.length ≤ k) {a b c : D} {l : List Ob} : killO k (os.set o (V3 a b c) ++ l) = os.set o (V3 a b c) ++ killO k l := by
  rw [killO_eq, List.map_append, ← killO_eq, ← killO_eq, killO_bnd hk (all_set' h.bd rfl)]
theorem Fr.k0 (h : Fr os o) : ∀ a b c l, killO os.length (os.set o (V3 a b c) ++ l) = os.set o (V3 a b c) ++ killO os.length l := fun _ _ _ _ => h.kA (Nat.le_refl _)
theorem Fr.k1 (h : Fr os o) : ∀ a b c l k, killO (os.length + k) (os.set o (V3 a b c) ++ l) = os.set o (V3 a b c) ++ killO (os.length + k) l := fun _ _ _ _ _ => h.kA (by omega)
theorem Fr.m1 (_h : Fr os o) : ∀ (X : Ob) l k, (os.set o X ++ l).modify (os.length + k) Ob.fz = os.set o X ++ l.modify k Ob.fz := fun X l k => by
  have := modify_app (f := Ob.fz) (os.set o X) l k
  rwa [List.length_set] at this
theorem Fr.m0 (h : Fr os o) : ∀ (X : Ob) l, (os.set o X ++ l).modify os.length Ob.fz = os.set o X ++ l.modify 0 Ob.fz := fun X l => h.m1 X l 0
theorem Fr.b0 (_h : Fr os o) : (os.length == os.length) = true := by simp
theorem Fr.b1 (_h : Fr os o) : ∀ k, (os.length == os.length + (k + 1)) = false := fun k => by simp
theorem Fr.b2 (_h : Fr os o) : ∀ k, (os.length + (k + 1) == os.length) = false := fun k => by simp
theorem Fr.b3 (h : Fr os o) : (o == os.length) = false := by have := h.lt; simp; omega
theorem Fr.b4 (h : Fr os o) : ∀ k, (o == os.length + k) = false := fun k => by have := h.lt; simp; omega
theorem Fr.b5 (_h : Fr os o) : ∀ j k, (os.length + j == os.length + k) = (j == k) := fun j k => by rw [Bool.eq_iff_iff]; simp
theorem Fr.cut (h : Fr os o) {env env' : List (Nat × V)} {a b c : D} {L l tl : List Ob} (he : sub env env') (h1 : (env'.all fun p => p.2.bnd (os.length + l.length)) = true) (h2 : (l.all (Ob.bnd (os.length + l.length))) = true) (ho : L = l ++ tl := by exact rfl) :
    Weak os.length ⟨env, os.set o (V3 a b c) ++ L⟩ ⟨env', os.set o (V3 a b c) ++ l⟩ := by
  subst ho
  refine .drop tl (by simp) he (by simp) (by rw [List.length_append, List.length_set]; exact h1) ?_
  rw [List.all_append, Bool.and_eq_true, List.length_append, List.length_set]
  exact ⟨all_mono (fun _ => Ob.bnd_mono (by omega)) (all_set' (X := V3 a b c) h.bd rfl), h2⟩
theorem Fr.set (h : Fr os o) {X : Ob} (hx : Ob.bnd os.length X = true) : Fr (os.set o X) o := ⟨by rw [List.length_set]; exact h.lt, by rw [List.length_set]; exact all_set' h.bd hx⟩
theorem Fr.app (h : Fr os o) {l : List Ob} (hl : l.all (Ob.bnd (os.length + l.length)) = true) : Fr (os ++ l) o := ⟨by rw [List.length_append]; have := h.lt; omega, by
  rw [List.all_append, Bool.and_eq_true, List.length_append]
  exact ⟨all_mono (fun _ => Ob.bnd_mono (by omega)) h.bd, hl⟩⟩
end
/-- Arrays alone. -/
class ArrL (l : List Ob) : Prop where
  h : ∀ n, l.all (Ob.bnd n) = true
instance : ArrL [] := ⟨fun _ => rfl⟩
instance {sz : Nat} {es : List D} {fz : Bool} {l : List Ob} [h : ArrL l] : ArrL (.arr sz es fz :: l) := ⟨fun n => by rw [List.all_cons, h.h n]; rfl⟩
/-- Cells of data alone. -/
class VDs (cs : List V) : Prop where
  h : ∀ n, cs.all (V.bnd n) = true
instance : VDs [] := ⟨fun _ => rfl⟩
instance {x : D} {r : List V} [h : VDs r] : VDs (.d x :: r) := ⟨fun n => by rw [List.all_cons, h.h n]; rfl⟩
instance {cs : List V} {fz : Bool} {l : List Ob} [k : VDs cs] [h : ArrL l] : ArrL (.var cs fz :: l) := ⟨fun n => by rw [List.all_cons, h.h n]; show (cs.all (V.bnd n) && true) = true; rw [k.h n]; rfl⟩
section
variable {os : List Ob} {o : Nat} [h : Fr os o]
instance {a b c : D} : Fr (os.set o (V3 a b c)) o := h.set rfl
instance {l : List Ob} [k : ArrL l] : Fr (os ++ l) o := h.app (k.h _)
theorem fg1 {X : Ob} : (os.set o X)[o]? = some X := h.g1 X
theorem fg2 {X : Ob} {l : List Ob} : (os.set o X ++ l)[o]? = some X := h.g2 X l
theorem fs1 {X Y : Ob} : (os.set o X).set o Y = os.set o Y := h.s1 X Y
theorem fs2 {X Y : Ob} {l : List Ob} : (os.set o X ++ l).set o Y = os.set o Y ++ l := h.s2 X Y l
theorem fn0 {X : Ob} {l : List Ob} : (os.set o X ++ l)[os.length]? = l[0]? := h.n0 X l
theorem fn1 {X : Ob} {l : List Ob} {k : Nat} : (os.set o X ++ l)[os.length + k]? = l[k]? := h.n1 X l k
theorem ft0 {X Y : Ob} {l : List Ob} : (os.set o X ++ l).set os.length Y = os.set o X ++ l.set 0 Y := h.t0 X Y l
theorem ft1 {X Y : Ob} {l : List Ob} {k : Nat} : (os.set o X ++ l).set (os.length + k) Y = os.set o X ++ l.set k Y := h.t1 X Y l k
theorem fl0 {X : Ob} : (os.set o X).length = os.length := h.l0 X
theorem fl1 {X : Ob} {l : List Ob} : (os.set o X ++ l).length = os.length + l.length := h.l1 X l
theorem fk0 {a b c : D} {l : List Ob} : killO os.length (os.set o (V3 a b c) ++ l) = os.set o (V3 a b c) ++ killO os.length l := h.k0 a b c l
theorem fk1 {a b c : D} {l : List Ob} {k : Nat} : killO (os.length + k) (os.set o (V3 a b c) ++ l) = os.set o (V3 a b c) ++ killO (os.length + k) l := h.k1 a b c l k
theorem fm0 {X : Ob} {l : List Ob} : (os.set o X ++ l).modify os.length Ob.fz = os.set o X ++ l.modify 0 Ob.fz := h.m0 X l
theorem fm1 {X : Ob} {l : List Ob} {k : Nat} : (os.set o X ++ l).modify (os.length + k) Ob.fz = os.set o X ++ l.modify k Ob.fz := h.m1 X l k
theorem fb3 : (o == os.length) = false := h.b3
theorem fb4 {k : Nat} : (o == os.length + k) = false := h.b4 k
end
theorem fb0 {n : Nat} : (n == n) = true := by simp
theorem fb1 {n k : Nat} : (n == n + (k + 1)) = false := by simp
theorem fb2 {n k : Nat} : (n + (k + 1) == n) = false := by simp
theorem fb5 {n j k : Nat} : (n + j == n + k) = (j == k) := by rw [Bool.eq_iff_iff]; simp
theorem fbo1 {n : Nat} : (n == n + 1) = false := by simp
theorem fbo2 {n : Nat} : (n + 1 == n) = false := by simp
theorem fbo3 {n : Nat} : (n == n + 2) = false := by simp
theorem fbo4 {n : Nat} : (n + 2 == n) = false := by simp
theorem pair_eta {α β : Type} {p : α × β} : (p.1, p.2) = p := rfl
attribute [go_sem] pair_eta fg1 fg2 fs1 fs2 fn0 fn1 ft0 ft1 fl0 fl1 fk0 fk1 fm0 fm1 fb3 fb4 fb0 fb5 fbo1 fbo2 fbo3 fbo4
/-- A method of such a pointer, by what it does to the three cells. -/
class ConS (C : Call) (n : FuncId) (vs : List V) (a b c : D) (pre : outParam Prop) (r : outParam V) (a' b' c' : outParam D) : Prop where
  ok : ∀ os o, Fr os o → pre → C n (.ref o 0 0 :: vs) (os.set o (V3 a b c)) r (os.set o (V3 a' b' c'))
section
variable {T : Tab} {C : Call} {nF : Nat} {env : List (Nat × V)} {os : List Ob} {K : St → Prop} {f : Operand} {args : List Operand} {ats : Array TypeId} {n : FuncId} {vs : List V} {o : Nat} {a b c a' b' c' : D} {pre : Prop} {r : V} {d : Tmp}
theorem set_same {os : List Ob} {o : Nat} {X : Ob} (h : os[o]? = some X) : os.set o X = os := by
  obtain ⟨hlt, rfl⟩ := List.getElem?_eq_some_iff.1 h
  simp
theorem wS3 (e : calleeR (ev env f) (evL env args) = some (n, .ref o 0 0 :: vs)) (e2 : os[o]? = some (V3 a b c)) (i : ConS C n vs a b c pre r a' b' c') (hF : Fr os o) (hp : pre) (k : K ⟨(d, r) :: env, os.set o (V3 a' b' c')⟩) :
    op1R T C nF (some d) (.call { callee := .value f, args := args.toArray, argTypes := ats }) ⟨env, os⟩ K := by
  have h := i.ok os o hF hp
  rw [set_same e2] at h
  exact wCm e h k
end
/-- A call of a method of such a pointer. -/
theorem nPs {P pre Q : Prop} (h : pre) (h2 : Q) (e : pre → Q → P := by
  intro b c
  first
  | (refine wS3 (by simp -implicitDefEqProofs (disch := omega) only [calleeR, go_sem]; first | done | exact rfl | fail) (by simp -implicitDefEqProofs (disch := omega) only [go_sem]; first | done | exact rfl | fail) inferInstance (by first | infer_instance | exact ⟨by simp, rfl⟩ | fail) b ?_; refine Eq.mpr ?_ c; simp -implicitDefEqProofs (disch := omega) only [go_sem]; exact rfl)
  | fail) : P := e h h2
end Go.PL
