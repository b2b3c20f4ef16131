/- A plain machine, sound for the given model, and contracts of functions over it, part 31: AKR AO. Nothing is assumed. -/
import Derived.Test.YtgfncbcnplfpdaaGreatDoorAB
import Derived.Lib.ItoaMem
import Derived.Laws.Strings
import Derived.Lib.Join
set_option linter.unusedSimpArgs false
set_option linter.unusedVariables false
set_option linter.unusedSectionVars false
/- AKR -/
namespace Go.PL
open Go Go.Proofs
set_option maxRecDepth 10000
set_option linter.unusedSimpArgs false
set_option linter.unusedVariables false
instance (n : Int) : Con CC 37 [.d (.i n)] (-9223372036854775808 ≤ n ∧ n ≤ 9223372036854775807) (.d (.s (itoaB n))) :=
  ⟨fun h => Den.ext ⟨rfl, rfl, .inl ⟨rfl, n, h.1, h.2, rfl, rfl⟩⟩⟩
theorem wrap8 {n : Int} (h1 : 0 ≤ n) (h2 : n < 256) : IntKind.wrap .u8 n = n := by
  have e1 : (2 ^ IntKind.u8.bits : Int) = 256 := by decide
  have e3 : IntKind.u8.signed = false := by decide
  simp only [IntKind.wrap, e1, e3, Bool.false_and, Bool.false_eq_true, if_false]
  omega
theorem digB_small {n : Nat} (h : n < 10) : digB n = strB [IntKind.u8.wrap (48 + (n : Int))] := by
  unfold digB strB
  rw [Lib.decDigits, dif_pos h, wrap8 (by omega) (by omega), show (48 + (n : Int)) = ((48 + n : Nat) : Int) by omega]
  rfl
theorem digB_big {n : Nat} (h : 10 ≤ n) : digB n = digB (n / 10) ++ strB [IntKind.u8.wrap (48 + ((n % 10 : Nat) : Int))] := by
  unfold digB strB
  rw [Lib.decDigits, dif_neg (by omega), wrap8 (by omega) (by omega), show (48 + ((n % 10 : Nat) : Int)) = ((48 + n % 10 : Nat) : Int) by omega]
  apply ByteArray.ext
  rw [ByteArray.data_append]
  show (Lib.decDigits (n / 10) ++ [UInt8.ofNat (48 + n % 10)]).toArray = (Lib.decDigits (n / 10)).toArray ++ [UInt8.ofNat (48 + n % 10)].toArray
  simp only [List.append_toArray]
theorem strB_size (l : List Int) : (strB l).size = l.length := by
  show ((l.map fun n => UInt8.ofNat n.toNat).toArray).size = _
  simp
theorem digB_size (n : Nat) : (digB n).size ≤ n + 1 := by
  show (Lib.decDigits n).toArray.size ≤ _
  induction n using Nat.strongRecOn with
  | _ n ih =>
    rw [Lib.decDigits]
    split
    · simp
    · have := ih (n / 10) (by omega)
      simp only [List.size_toArray, List.length_append, List.length_cons, List.length_nil] at this ⊢
      omega
theorem itoaB_nat (m : Nat) : itoaB (m : Int) = digB m := by unfold itoaB digB; rw [Lib.itoa_nonneg]
theorem joinB_zero {sep : ByteArray} : joinB [] sep = ⟨#[]⟩ := rfl
theorem joinB_first {ws : List ByteArray} {sep : ByteArray} (h : 0 < ws.length) : joinB (ws.take (0 + 1)) sep = joinB [] sep ++ ws.getD 0 ByteArray.empty := by
  match ws, h with
  | w :: r, _ =>
    apply ByteArray.ext
    rw [ByteArray.data_append]
    simp [joinB, Lib.join_one, Lib.join_nil]
theorem joinB_succ {ws : List ByteArray} {sep : ByteArray} {i : Nat} (h0 : 0 < i) (h : i < ws.length) : joinB (ws.take (i + 1)) sep = joinB (ws.take i) sep ++ sep ++ ws.getD i ByteArray.empty := by
  match ws, i, h0, h with
  | w :: r, k + 1, _, h =>
    have hk : k < r.length := by simpa using h
    have e : (r.map (·.data.toList))[k]? = some (r.getD k ByteArray.empty).data.toList := by
      rw [List.getElem?_map, List.getElem?_eq_getElem hk, List.getD, List.getElem?_eq_getElem hk]; rfl
    apply ByteArray.ext
    rw [ByteArray.data_append, ByteArray.data_append]
    simp only [joinB, List.take_succ_cons, List.map_cons, Lib.join_cons, List.map_take, List.getD_cons_succ]
    rw [Lib.joinTail_take_succ _ _ _ _ e]
    simp
/-- The bytes of words, each with one that comes between. -/
def szJ (ws : List ByteArray) (sep : ByteArray) : Nat := sep.size * ws.length + Lib.lens (ws.map (·.data.toList))
theorem lens_cons (x : List UInt8) (r : List (List UInt8)) : Lib.lens (x :: r) = x.length + Lib.lens r := by simp [Lib.lens]
theorem joinB_size (ws : List ByteArray) (sep : ByteArray) : (joinB ws sep).size ≤ szJ ws sep := by
  have key : (Lib.join (ws.map (·.data.toList)) sep.data.toList).length ≤ szJ ws sep := by
    match ws with
    | [] => simp [Lib.join_nil]
    | w :: r =>
      have e := Lib.joinTail_length sep.data.toList (r.map (·.data.toList))
      have e2 : sep.data.toList.length = sep.size := rfl
      have e3 : (r.map (·.data.toList)).length = r.length := List.length_map ..
      have e4 : sep.size * (w :: r).length = sep.size * r.length + sep.size := Nat.mul_succ _ _
      rw [List.map_cons, Lib.join_cons, List.length_append, e, e2, e3]
      unfold szJ
      rw [List.map_cons, lens_cons, e4]
      omega
  simpa [joinB, ByteArray.size] using key
theorem szJ_take (ws : List ByteArray) (sep : ByteArray) (k : Nat) : szJ (ws.take k) sep ≤ szJ ws sep := by
  unfold szJ
  have h1 := Lib.lens_take_le (ws.map (·.data.toList)) k
  have h2 : (ws.take k).length ≤ ws.length := by rw [List.length_take]; omega
  have h3 := Nat.mul_le_mul_left sep.size h2
  rw [List.map_take]
  omega
theorem szJ_le {ws : List ByteArray} {sep : ByteArray} {b : Nat} (h : ∀ w ∈ ws, w.size ≤ b) : szJ ws sep ≤ (sep.size + b) * ws.length := by
  have key : Lib.lens (ws.map (·.data.toList)) ≤ b * ws.length := by
    induction ws with
    | nil => simp [Lib.lens]
    | cons w r ih =>
      have h1 : w.data.toList.length ≤ b := h w (by simp)
      have h2 := ih fun x hx => h x (by simp [hx])
      rw [List.map_cons, lens_cons, List.length_cons, Nat.mul_succ]
      omega
  unfold szJ
  rw [Nat.add_mul]
  omega
theorem joinB_len (ws : List ByteArray) (sep : ByteArray) : (Lib.join (ws.map (·.data.toList)) sep.data.toList).length = (joinB ws sep).size := by simp [joinB, ByteArray.size]
instance (ws : List ByteArray) (s : ByteArray) : Con CC 58 [.d (.sl (ws.map .s)), .d (.s s)] (ws.length ≤ 1048576 ∧ szJ ws s ≤ 140737488355328) (.d (.s (joinB ws s))) :=
  ⟨fun h => Den.ext ⟨rfl, rfl, .inr (.inr ⟨rfl, ws, s, h.1, by rw [joinB_len]; exact Nat.le_trans (joinB_size ..) h.2, rfl, rfl⟩)⟩⟩
end Go.PL

/- AO -/
namespace Go.PL
open Go Go.Proofs
set_option maxRecDepth 10000
set_option linter.unusedSimpArgs false
set_option linter.unusedVariables false
/-- A text of bytes. -/
def strT (l : List UInt8) : ByteArray := ⟨l.toArray⟩
theorem strT_size {l : List UInt8} : (strT l).size = l.length := by simp [strT, ByteArray.size]
theorem strT_app {a b : List UInt8} : strT a ++ strT b = strT (a ++ b) := by
  apply ByteArray.ext
  rw [ByteArray.data_append]
  simp [strT]
theorem strT_tail {c : UInt8} {l : List UInt8} : (strT (c :: l)).extract 1 (strT (c :: l)).size = strT l := by
  apply ByteArray.ext
  rw [ByteArray.data_extract]
  simp [strT, ByteArray.size]
theorem strT_tail4 {c : UInt8} {l : List UInt8} (h : l.length = 4) : (strT (c :: l)).extract 1 5 = strT l := by
  have e : (strT (c :: l)).size = 5 := by rw [strT_size, List.length_cons, h]
  rw [← e]; exact strT_tail
theorem natTB_nil : natTB [] = strT [48] := rfl
theorem natTB_ne {a : List Int} (h : a ≠ []) : natTB a = strT (textR a.reverse) := by rw [natTB, if_neg h]; rfl
abbrev limbs (a : List Int) : Prop := ∀ x ∈ a, 0 ≤ x ∧ x ≤ 9999
theorem natTB_size {a : List Int} (h : limbs a) : (natTB a).size ≤ 4 * a.length + 1 := by
  by_cases e : a = []
  · subst e; rw [natTB_nil, strT_size]; simp
  · rw [natTB_ne e, strT_size]
    have := textR_len (l := a.reverse) fun x hx => h x (by simpa using hx)
    rw [List.length_reverse] at this; omega
instance (a : List Int) : Con CC 57 [.d (.sl (a.map .i))] (a.length ≤ 1048576 ∧ limbs a) (.d (.s (natTB a))) :=
  ⟨fun h => Den.ext ⟨rfl, rfl, .inr (.inl ⟨rfl, a, h.1, h.2, rfl, rfl⟩)⟩⟩
end Go.PL
