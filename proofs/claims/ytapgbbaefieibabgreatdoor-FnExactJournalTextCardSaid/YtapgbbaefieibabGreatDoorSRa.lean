/- A plain machine, sound for the given model, and contracts of functions over it, part 34: SRa. Nothing is assumed. -/
import Derived.Test.YtapgbbaefieibabGreatDoorG31
import Derived.Test.YtapgbbaefieibabGreatDoorG32
import Derived.Test.YtapgbbaefieibabGreatDoorAH
set_option linter.unusedSimpArgs false
set_option linter.unusedVariables false
set_option linter.unusedSectionVars false
/- SRa -/
namespace Go.PL
open Go Go.Proofs
set_option maxRecDepth 10000
set_option maxHeartbeats 4000000
set_option linter.unusedSimpArgs false
set_option linter.unusedVariables false
/-- The words of a record's text. -/
def recW (r : Rc) : List (List UInt8) := [[97, 116], Lib.decDigits r.iter.toNat, [104, 97, 108, 118, 101, 100], Lib.decDigits r.count.toNat, [118, 97, 108, 117, 101], bsT (ratTB r.f), [112, 111, 105, 110, 116]] ++ r.x.map fun q => bsT (ratTB q)
theorem bsT_join (ws : List ByteArray) : bsT (joinB ws spB) = joinS 32 (ws.map bsT) := by
  show (Lib.join (ws.map bsT) [32]) = _
  exact joinS_eq 32 _
theorem recTB_bs {r : Rc} (h : r.x ≠ []) : bsT (recTB r) = joinS 32 (recW r) := by
  unfold recTB recW vecTB
  rw [joinS_app (by simp) (by simpa using h)]
  simp only [bsT_app, bsT_join, bsT_digB, List.map_map]
  simp [joinS, tailS, bsT, Function.comp_def]
theorem recW_free {r : Rc} (h : okRc r = true) : ∀ w ∈ recW r, (32 : UInt8) ∉ w := by
  obtain ⟨_, hx, hf⟩ := okRc_parts h
  obtain ⟨_, hv⟩ := okVec_parts hx
  intro w hw
  unfold recW at hw
  simp only [List.cons_append, List.nil_append, List.mem_cons, List.mem_map] at hw
  rcases hw with rfl | rfl | rfl | rfl | rfl | rfl | rfl | ⟨q, hq, rfl⟩
  · decide
  · exact dec_free _ 32 (.inl (by decide))
  · decide
  · exact dec_free _ 32 (.inl (by decide))
  · decide
  · exact ratTB_free hf
  · decide
  · exact ratTB_free (hv q hq)
theorem map_inj_on {α β : Type} {f : α → β} : ∀ {l m : List α}, (∀ a ∈ l, ∀ b ∈ m, f a = f b → a = b) → l.map f = m.map f → l = m
  | [], [], _, _ => rfl
  | [], y :: s, _, h => by simp at h
  | x :: r, [], _, h => by simp at h
  | x :: r, y :: s, hf, h => by
    simp only [List.map_cons, List.cons.injEq] at h
    rw [hf x (by simp) y (by simp) h.1, map_inj_on (fun a ha b hb => hf a (by simp [ha]) b (by simp [hb])) h.2]
theorem okVec_ne {l : List Rt} (h : okVec l = true) : l ≠ [] := by
  rintro rfl; unfold okVec at h; simp at h
theorem recTB_inj {r s : Rc} (hr : okRc r = true) (hs : okRc s = true) (h : recTB r = recTB s) : r = s := by
  obtain ⟨⟨m, n, a1, a2, _, _⟩, hx, hf⟩ := okRc_parts hr
  obtain ⟨⟨u, v, b1, b2, _, _⟩, hy, hg⟩ := okRc_parts hs
  obtain ⟨_, hxv⟩ := okVec_parts hx
  obtain ⟨_, hyv⟩ := okVec_parts hy
  have h2 := congrArg bsT h
  rw [recTB_bs (okVec_ne hx), recTB_bs (okVec_ne hy)] at h2
  have h3 := joinS_inj (by simp [recW]) (by simp [recW]) (recW_free hr) (recW_free hs) h2
  unfold recW at h3
  simp only [List.cons_append, List.nil_append, List.cons.injEq, true_and] at h3
  obtain ⟨q1, q2, q3, q4⟩ := h3
  have e1 := dec_inj q1
  have e2 := dec_inj q2
  have e3 := ratTB_inj hf hg (bsT_inj q3)
  have e4 := map_inj_on (fun a ha b hb hab => ratTB_inj (hxv a ha) (hyv b hb) (bsT_inj hab)) q4
  obtain ⟨i1, c1, x1, f1⟩ := r
  obtain ⟨i2, c2, x2, f2⟩ := s
  simp only at a1 a2 b1 b2 e1 e2 e3 e4 ⊢
  have : i1 = i2 := by omega
  have : c1 = c2 := by omega
  subst_vars; rfl
/-- A report's lines. -/
def stT : ByteArray := ⟨#[115, 116, 97, 116, 117, 115, 32]⟩
def linR (r : Rp) : List ByteArray := r.recs.map recTB ++ [stT ++ stW.getD r.status.toNat ByteArray.empty]
theorem okRp_parts {r : Rp} (h : okRp r = true) : 1 ≤ r.status ∧ r.status ≤ 6 ∧ r.recs.length ≤ 7 ∧ ∀ x ∈ r.recs, okRc x = true := by
  unfold okRp at h
  rw [decide_eq_true_eq] at h
  refine ⟨h.1, h.2.1, h.2.2.1, fun x hx => ?_⟩
  obtain ⟨i, hi, rfl⟩ := List.getElem_of_mem hx
  have := (h.2.2.2 i hi).1
  simpa only [List.getD, List.getElem?_eq_getElem hi, Option.getD_some] using this
theorem stW_inj {a b : Int} (ha : 1 ≤ a ∧ a ≤ 6) (hb : 1 ≤ b ∧ b ≤ 6) (h : stW.getD a.toNat ByteArray.empty = stW.getD b.toNat ByteArray.empty) : a = b := by
  have h2 := congrArg bsT h
  have ca : a = 1 ∨ a = 2 ∨ a = 3 ∨ a = 4 ∨ a = 5 ∨ a = 6 := by omega
  have cb : b = 1 ∨ b = 2 ∨ b = 3 ∨ b = 4 ∨ b = 5 ∨ b = 6 := by omega
  rcases ca with rfl | rfl | rfl | rfl | rfl | rfl <;> rcases cb with rfl | rfl | rfl | rfl | rfl | rfl <;> first | rfl | (exfalso; revert h2; decide)
theorem linR_inj {r s : Rp} (hr : okRp r = true) (hs : okRp s = true) (h : linR r = linR s) : r = s := by
  obtain ⟨a1, a2, a3, a4⟩ := okRp_parts hr
  obtain ⟨b1, b2, b3, b4⟩ := okRp_parts hs
  unfold linR at h
  obtain ⟨h1, h2⟩ := List.append_inj' h rfl
  have e1 := map_inj_on (fun a ha b hb hab => recTB_inj (a4 a ha) (b4 b hb) hab) h1
  simp only [List.cons.injEq, and_true] at h2
  have h3 := congrArg bsT h2
  rw [bsT_app, bsT_app] at h3
  have e2 := stW_inj ⟨a1, a2⟩ ⟨b1, b2⟩ (bsT_inj (List.append_cancel_left h3))
  obtain ⟨i1, l1⟩ := r
  obtain ⟨i2, l2⟩ := s
  simp only at e1 e2
  subst e1; subst e2; rfl
theorem stW_size (k : Nat) : (stW.getD k ByteArray.empty).size ≤ 6 := by
  rcases k with _ | _ | _ | _ | _ | _ | _ | k
  all_goals first | decide | (simp [stW])
theorem recTB_size {r : Rc} (h : okRc r = true) : (recTB r).size ≤ 2100 := by
  obtain ⟨⟨m, n, hm, hn, hm6, hn30⟩, hx, hf⟩ := okRc_parts h
  have s1 := digB_size m
  have s2 := digB_size n
  have s3 := ratTB_size hf
  have s4 := vecTB_size hx
  have e1 : (ByteArray.mk #[97, 116, 32]).size = 3 := rfl
  have e2 : (ByteArray.mk #[32, 104, 97, 108, 118, 101, 100, 32]).size = 8 := rfl
  have e3 : (ByteArray.mk #[32, 118, 97, 108, 117, 101, 32]).size = 7 := rfl
  have e4 : (ByteArray.mk #[32, 112, 111, 105, 110, 116, 32]).size = 7 := rfl
  unfold recTB
  rw [hm, hn]
  simp only [ByteArray.size_append, Int.toNat_natCast]
  omega
end Go.PL
