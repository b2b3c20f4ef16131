/- A plain machine, sound for the given model, and contracts of functions over it, part 22: Bk Bt. Nothing is assumed. -/
import Derived.Test.YtfdjgoapdkpbaaaG03
import Derived.Test.YtfdjgoapdkpbaaaA1
import Derived.RangeFuncBox
import Derived.RangeFuncLeaves
import Derived.Shelf.Abstract
import Derived.WalkKit
import Derived.OwnWalkIn
import Derived.TacticsInMore
import Derived.LoopNIn
import Derived.LoopIn
import Derived.Test.YtfdjgoapdkpbaaaProg
set_option linter.unusedSimpArgs false
set_option linter.unusedVariables false
set_option linter.unusedSectionVars false
/- Bk -/
namespace Go.Proofs
open Go.RowKit Go.Shelf Go.PL

attribute [local go_sem] Oper.semAt_some

theorem backRead {W : World} {Pr : Pro} {es : List Int} {lb : Value} (h : RelD W Pr (.ptr [.sl (es.map .i)]) lb) : ∃ Bs Bo, lb = .pointer (some ⟨Bs, Bo, none⟩) ∧ ∃ A cap, W.cell? ⟨Bs, Bo, none⟩ = some (.slice A es.length cap) ∧
    ∀ k, k < es.length → ∃ b off, A = some ⟨b, off, none⟩ ∧ W.cell? ⟨b, off + k, none⟩ = some (.int .i64 (es.getD k 0)) := by
  cases h with
  | ptr _ b off vs hp hc hr =>
    have h1 := hc 0 (by simp)
    have h2 := hr 0 (by simp)
    simp only [List.getElem_cons_zero, Nat.add_zero] at h1 h2
    refine ⟨b, off, rfl, ?_⟩
    generalize vs 0 = v at h1 h2
    generalize hes : es.map D.i = ds at h2
    cases h2 with
    | nil A cap =>
      have : es = [] := by simpa using hes
      subst this
      exact ⟨A, cap, h1, fun k hk => by simp at hk⟩
    | sl _ b2 off2 cap sz vs2 hcap hsz hp2 hc2 hr2 =>
      have hl : ds.length = es.length := by rw [← hes]; simp
      refine ⟨_, cap, by rw [← hl]; exact h1, fun k hk => ⟨b2, off2, rfl, ?_⟩⟩
      have e : ds[k]'(by omega) = D.i (es.getD k 0) := by subst hes; simp [List.getD, hk]
      have hs1 : sz = 1 := by rw [← hsz k (by omega), e]; rfl
      subst hs1
      have h3 := hc2 k 0 (by omega) (by omega)
      have h4 := hr2 k (by omega) 0 (by rw [e]; simp [D.cells])
      simp only [e, D.cells, List.getElem_cons_zero] at h4
      generalize vs2 k 0 = v2 at h3 h4
      cases h4
      simpa [cellAt] using h3

set_option maxRecDepth 100000 in
set_option maxHeartbeats 2000000 in
theorem Try.backSays : BackSays Try.prog 79 := by
  intro m es lb J Jx l w Pr hlen hrel h0 hY
  obtain ⟨Bs, Bo, rfl, A, cap, hBs, hA⟩ := backRead (hrel _ _ _ h0)
  refine (callsIn_wide (n := m + 1)).1 ?_
  refine callsIn_of_wp Try.func79 rfl trivial ?_ rfl
  simp only [Try.ntmps79, List.size_toArray, List.length_cons, List.length_nil, Nat.reduceAdd, Nat.reduceSub, Array.replicate_succ, Array.replicate_zero, List.push_toArray, List.append_toArray, List.nil_append, List.cons_append]
  gi_wp2
  gi_loopw [3] (fun i wr => ∃ k : Nat, k ≤ es.length ∧ i = .int .i64 ((k : Int) - 1) ∧ ∃ Pr, J k Pr wr)
    (fun i _ => (intOf i + 1).toNat)
  case atStart => exact ⟨es.length, Nat.le_refl _, by simp, Pr, h0⟩
  case round =>
    obtain ⟨k, hk, hi, Pr1, hJs⟩ := hrel
    obtain ⟨Bs', Bo', e, A', cap', hBs', hA'⟩ := backRead (hrel _ _ _ hJs)
    cases e
    rcases k with _ | k
    · have hi' : u3 = .int .i64 (-1) := by rw [hi]; rfl
      subst hi'
      gi_wp2
      go_end0
      exact ⟨⟨_, rfl⟩, .inl ⟨_, hJs⟩⟩
    · have hi' : u3 = .int .i64 (k : Int) := by rw [hi]; congr 1; omega
      subst hi'
      obtain ⟨b, off, rfl, hcx⟩ := hA' k (by omega)
      have hlt : k < es.length := by omega
      obtain ⟨fn, tmps, assign, body, hy, hR⟩ := hY k Pr1 wr hlt hJs
      have hgd : es.getD k 0 = es[k] := by simp [List.getD, hlt]
      have e1 : (((k + 1 : Nat) : Int) - 1) = (k : Int) := by omega
      have hy2 : (Instr.yield l #[Value.int IntKind.i64 (((k + 1 : Nat) : Int) - 1), Value.int IntKind.i64 es[k]]).run Try.prog wr = .ok (.round l fn tmps assign body) wr := by
        rw [e1, ← hgd]; exact hy
      gi_wp2
      refine hR.mono ?_
      rintro e W3 (⟨rfl, Pr3, hJ3⟩ | ⟨rfl, hJx3⟩)
      · gi_wp2
        go_roundw
        case rel => exact ⟨k, by omega, by simp, Pr3, hJ3⟩
        case measure => simp [intOf]
      · gi_wp2
        refine bodyPost_ret (results_none rfl _ _ _) rfl ?_
        exact ⟨⟨_, rfl⟩, .inr hJx3⟩
end Go.Proofs

/- Bt -/
namespace Go.PL
open Go Go.Proofs
instance : ItOk TT Try.prog where
  ok := by
    intro g hg
    have : g = 79 := List.mem_singleton.1 hg
    subst this
    exact ⟨⟨_, Try.func79, by decide, rfl⟩, Try.backSays⟩
end Go.PL
