/- A plain machine, sound for the given model, and contracts of functions over it, part 4: PlCalls PlWp. Nothing is assumed. -/
import Derived.Test.YtgfncbcnplfpdaaGreatDoorG03
import Derived.RangeFuncNested
import Derived.OrdersIn
import Derived.LoopIn
set_option linter.unusedSimpArgs false
set_option linter.unusedVariables false
set_option linter.unusedSectionVars false
/- PlCalls -/
namespace Go.PL
open Go

/-- Blocks that hold what they hold: package-level variables; no object lies there. -/
structure GL where
  l : List (Nat × Obj)
  d : List (Nat × List D) := []

structure GOk (gl : GL) (w : World) (Pr : Pro) (p : Place) (os : List Ob) : Prop where
  cell : ∀ x ∈ gl.l, w.heap[x.1]? = some x.2
  apart : ∀ x ∈ gl.l, ∀ (o : Nat) (ob : Ob), os[o]? = some ob → ob ≠ .dead → p.bl o ≠ x.1
  dat : ∀ x ∈ gl.d, RelD w Pr (.ptr x.2) (.pointer (some ⟨x.1, 0, none⟩))

/-- The table's variables are those that are told. -/
class TG (T : Tab) (gl : GL) : Prop where
  ok : T.gs = gl.d

theorem GOk.nil {w : World} {Pr : Pro} {p : Place} {os : List Ob} : GOk ⟨[], []⟩ w Pr p os := ⟨fun x h => (nomatch h), fun x h => (nomatch h), fun x h => (nomatch h)⟩

theorem GOk.inv {gl : GL} {g : Ghost} {w : World} {Pr : Pro} {p : Place} {os : List Ob} (h : GOk gl g.w0 g.Pr0 g.p0 g.os0) (hI : Inv g w Pr p os) : GOk gl w Pr p os := by
  have hlt : ∀ x ∈ gl.l, x.1 < g.w0.heap.size := fun x hx => (Array.getElem?_eq_some_iff.1 (h.cell x hx)).1
  refine ⟨fun x hx => ?_, fun x hx o ob h1 h2 => ?_, fun x hx => (h.dat x hx).mono hI.stab⟩
  · rw [hI.frm.block x.1 (hlt x hx) (by rintro ⟨o, ob, k1, k2, k3⟩; exact h.apart x hx o ob k1 k2 k3)]
    exact h.cell x hx
  · rcases Nat.lt_or_ge o g.os0.length with k | k
    · obtain ⟨ob0, k1, k2, k3, _⟩ := hI.cmp.live o ob k h1 h2
      rw [k3]; exact h.apart x hx o ob0 k1 k2
    · have := hI.own o ob h1 k h2
      have := hlt x hx
      omega

theorem GOk.none {gl : GL} {w : World} {Pr : Pro} {p : Place} {os : List Ob} (h : GOk gl w Pr p os) : GOk gl w Pr p [] := ⟨h.cell, fun x _ o ob h1 => by simp at h1, h.dat⟩
theorem GOk.stab {gl : GL} {w : World} {Pr Pr' : Pro} {p : Place} {os : List Ob} (h : GOk gl w Pr p os) (hs : Stab w w Pr Pr') : GOk gl w Pr' p os := ⟨h.cell, h.apart, fun x hx => (h.dat x hx).mono hs⟩

/-- What a call of the plain machine says of the machine. -/
def Says (P : Program) (gl : GL) : Call := fun f args os r os' =>
  (∃ fn, P.funcs[f]? = some fn ∧ (fn.name == "runtime.NumGoroutine") = false ∧ fn.body.isNone = false) ∧
  ∀ (w : World) (Pr : Pro) (p : Place) (vals : Array Value), Mem w Pr p os → GOk gl w Pr p os → (hl : vals.size = args.length) → (∀ i (hi : i < args.length), RelV w Pr p os args[i] (vals[i]'(by omega))) →
    Calls P f vals w fun e w' => ∃ v Pr' p', e = .returned v ∧ Inv ⟨w, Pr, p, os⟩ w' Pr' p' os' ∧ RelV w' Pr' p' os' r v

/-- An iterator over the elements of a slice, the last first. -/
def BackSays (P : Program) (g : FuncId) : Prop := ∀ (m : Nat) (es : List Int) (lb : Value) (J : Nat → Pro → World → Prop) (Jx : World → Prop) (l : Nat) (w : World) (Pr : Pro),
  es.length * 8 ≤ 140737488351232 → (∀ k Pr W, J k Pr W → RelD W Pr (.ptr [.sl (es.map .i)]) lb) → J es.length Pr w →
  (∀ k Pr W, k < es.length → J (k + 1) Pr W → YieldAt Fence.wide m P l #[.int .i64 k, .int .i64 (es.getD k 0)] W
    (fun e W' => (e = .returned (.bool true) ∧ ∃ Pr', J k Pr' W') ∨ (e = .returned (.bool false) ∧ Jx W'))) →
  Calls P g #[.func (.yield l) #[] #[], lb] w (fun e W' => (∃ v, e = .returned v) ∧ ((∃ Pr', J 0 Pr' W') ∨ Jx W'))

class ItOk (T : Tab) (P : outParam Program) : Prop where
  ok : ∀ g ∈ T.bk, (∃ fn, P.funcs[g]? = some fn ∧ (fn.name == "runtime.NumGoroutine") = false ∧ fn.body.isNone = false) ∧ BackSays P g

section
variable {P : Program} {T : Tab} [TOk T P] {C : Call} {gl : GL}

theorem Inv.moved {w w' : World} {Pr Pr' : Pro} {p p' : Place} {os os' : List Ob} (h : Inv ⟨w, Pr, p, os⟩ w' Pr' p' os') {nF : Nat} (hnF : nF ≤ os.length) : Moved nF w w' Pr Pr' p p' os os' := by
  refine ⟨⟨h.stab, h.frm, h.prN, h.cmp.len, fun o ob' ho h1 h2 => h.cmp.live o ob' (by simp only; omega) h1 h2, fun o sz es fz ho h1 => h.cmp.arr o sz es fz (by simp only; omega) h1, fun o ob' h1 hge h2 => ?_⟩, h.mem⟩
  by_cases hlt : o < os.length
  · obtain ⟨ob, k1, k2, k3, _⟩ := h.cmp.live o ob' hlt h1 h2
    exact .inr ⟨ob, k1, k2, k3⟩
  · exact .inl (h.own o ob' h1 (by simp only; omega) h2)

theorem Mem.none {w : World} {Pr : Pro} {p : Place} {os : List Ob} (h : Mem w Pr p os) : Mem w Pr p [] :=
  ⟨h.prIn, fun o ob ho => by simp at ho, fun o o' a b ha => by simp at ha, fun o ob ho => by simp at ho⟩

/-- Two kinds of objects side by side. -/
def Place.join (p q : Place) (n : Nat) : Place := ⟨fun o => if o < n then p.bl o else q.bl (o - n), fun o => if o < n then p.room o else q.room (o - n)⟩

theorem get_join {os N : List Ob} {o : Nat} {ob : Ob} (h : (os ++ N)[o]? = some ob) : (o < os.length ∧ os[o]? = some ob) ∨ (os.length ≤ o ∧ N[o - os.length]? = some ob) := by
  by_cases hlt : o < os.length
  · rw [List.getElem?_append_left hlt] at h; exact .inl ⟨hlt, h⟩
  · rw [List.getElem?_append_right (by omega)] at h; exact .inr ⟨by omega, h⟩

section
variable {w : World} {Pr : Pro} {p q : Place} {os N : List Ob}

theorem RelV.shift1 {x : V} {v : Value} (h : RelV w Pr q N x v) : RelV w Pr (p.join q os.length) (os ++ N) (x.shift1 os.length) v := by
  cases h with
  | d h => exact .d h
  | @ref o i j a ho h =>
    refine .ref (by simp; omega) fun ob h1 h2 => ?_
    rw [List.getElem?_append_right (by omega)] at h1
    rw [show os.length + o - os.length = o by omega] at h1
    have hne : ¬ os.length + o < os.length := by omega
    rw [h ob h1 h2]
    simp [Place.join, hne]
  | @msl o off len A cap ho hl hn h =>
    refine .msl (by simp; omega) hl hn fun sz es fz h1 => ?_
    rw [List.getElem?_append_right (by omega)] at h1
    rw [show os.length + o - os.length = o by omega] at h1
    have := h sz es fz h1
    have hne : ¬ os.length + o < os.length := by omega
    simpa [Place.join, hne] using this
  | _ => exact .any

theorem RelV.shift2 {x : V} {v : Value} (h : RelV w Pr q N x v) : RelV w Pr (p.join q os.length) (os ++ N) (x.shift2 os.length) v := by
  have h0 := h
  cases h with
  | agg hz hr => exact .agg (by simpa using hz) (fun i hi => by simp at hi ⊢; exact (hr i hi).shift1)
  | fn hf hcz hrf hrc => exact .fn (by simpa using hf) (by simpa using hcz) (fun i hi => by simp at hi ⊢; exact (hrf i hi).shift1) (fun i hi => by simp at hi ⊢; exact (hrc i hi).shift1)
  | _ => exact h0.shift1

theorem RelV.shift {x : V} {v : Value} (h : RelV w Pr q N x v) : RelV w Pr (p.join q os.length) (os ++ N) (x.shift os.length) v := by
  have h0 := h
  cases h with
  | tup hz hr => exact .tup (by simpa using hz) (fun i hi => by simp at hi ⊢; exact (hr i hi).shift2)
  | _ => exact h0.shift2

end

/-- Memory of the caller's objects and of those that came back. -/
theorem Mem.join {w w' : World} {Pr Pr' : Pro} {p q : Place} {os N : List Ob} (hM : Mem w Pr p os) (h : Inv ⟨w, Pr, p, []⟩ w' Pr' q N) (hpl0 : N.all Ob.plain = true) {nF : Nat} (hnF : nF ≤ os.length) :
    Moved nF w w' Pr Pr' p (p.join q os.length) os (os ++ N) ∧ Stab w w' Pr Pr' ∧ Cmp p (p.join q os.length) os (os ++ N) := by
  have hfb : ∀ k, ¬ Ghost.fb ⟨w, Pr, p, []⟩ k := by rintro k ⟨o, ob, h1, _⟩; simp at h1
  have hblk : ∀ k, k < w.heap.size → w'.heap[k]? = w.heap[k]? := fun k hk => h.frm.block k hk (hfb k)
  have hprN : ∀ b i, Pr' b i → Pr b i ∨ w.heap.size ≤ b := fun b i hp => by
    rcases h.prN b i hp with h1 | h1 | h1
    · exact .inl h1
    · exact .inr h1
    · exact absurd h1 (hfb b)
  have hpl : ∀ o, o < os.length → (p.join q os.length).bl o = p.bl o ∧ (p.join q os.length).room o = p.room o := fun o ho => by simp [Place.join, ho]
  have hpr : ∀ o, os.length ≤ o → (p.join q os.length).bl o = q.bl (o - os.length) ∧ (p.join q os.length).room o = q.room (o - os.length) := fun o ho => by
    have : ¬ o < os.length := by omega
    simp [Place.join, this]
  have hc : Cmp p (p.join q os.length) os (os ++ N) := by
    refine ⟨by simp, fun o ob' ho h1 hd => ?_, fun o sz es fz ho h1 => ?_⟩
    · rw [List.getElem?_append_left ho] at h1
      exact ⟨ob', h1, hd, (hpl o ho).1, (hpl o ho).2, rfl⟩
    · rw [List.getElem?_append_left ho] at h1
      exact ⟨es, fz, h1, Nat.le_refl _⟩
  have hown : ∀ o ob, N[o]? = some ob → ob ≠ .dead → w.heap.size ≤ q.bl o := fun o ob h1 h2 => h.own o ob h1 (Nat.zero_le _) h2
  refine ⟨⟨⟨h.stab, ⟨h.frm.os, h.frm.tape, h.frm.output, h.frm.size, fun k hk _ => hblk k hk⟩, fun b i hp => (hprN b i hp).imp_right .inl, by simp, fun o ob' ho h1 h2 => hc.live o ob' (by omega) h1 h2,
    fun o sz es fz ho h1 => hc.arr o sz es fz (by omega) h1, fun o ob' h1 hge h2 => ?_⟩, ?_⟩, h.stab, hc⟩
  · rcases get_join h1 with ⟨g1, g2⟩ | ⟨g1, g2⟩
    · exact .inr ⟨ob', g2, h2, (hpl o g1).1⟩
    · rw [(hpr o g1).1]; exact .inl (hown _ _ g2 h2)
  · refine ⟨h.mem.prIn, fun o ob ho hd => ?_, fun o o' a b ha hb hda hdb e => ?_, fun o ob ho => ?_⟩
    · rcases get_join ho with ⟨g1, g2⟩ | ⟨g1, g2⟩
      · rw [(hpl o g1).1]; exact Nat.lt_of_lt_of_le (hM.blk o ob g2 hd) h.frm.size
      · rw [(hpr o g1).1]; exact h.mem.blk _ ob g2 hd
    · rcases get_join ha with ⟨g1, g2⟩ | ⟨g1, g2⟩ <;> rcases get_join hb with ⟨g3, g4⟩ | ⟨g3, g4⟩
      · rw [(hpl o g1).1, (hpl o' g3).1] at e; exact hM.inj o o' a b g2 g4 hda hdb e
      · rw [(hpl o g1).1, (hpr o' g3).1] at e
        have := hM.blk o a g2 hda; have := hown _ _ g4 hdb; omega
      · rw [(hpr o g1).1, (hpl o' g3).1] at e
        have := hM.blk o' b g4 hdb; have := hown _ _ g2 hda; omega
      · rw [(hpr o g1).1, (hpr o' g3).1] at e
        have := h.mem.inj _ _ a b g2 g4 hda hdb e; omega
    · rcases get_join ho with ⟨g1, g2⟩ | ⟨g1, g2⟩
      · refine ObRel.mono h.stab hc (fun hd => ⟨(hpl o g1).1, (hpl o g1).2, hblk _ (hM.blk o ob g2 hd), fun j => ⟨fun hp => ?_, h.stab.pr _ _⟩⟩) (hM.ob o ob g2)
        rcases hprN _ _ hp with h5 | h5
        · exact h5
        · have := hM.blk o ob g2 hd; omega
      · have h5 := h.mem.ob _ ob g2
        cases ob with
        | var cs fz => exact absurd (List.all_eq_true.1 hpl0 _ (List.mem_of_getElem? g2)) (by simp [Ob.plain])
        | arr sz es fz =>
          obtain ⟨vs, et, k1, k2, k3, k4, k5, k6, k7⟩ := h5
          exact ⟨vs, et, by rw [(hpr o g1).1]; exact k1, by rw [(hpr o g1).2]; exact k2, by rw [(hpr o g1).2]; exact k3, by rw [(hpr o g1).2]; exact k4, k5, k6, by rw [(hpr o g1).1]; exact k7⟩
        | dead => trivial


theorem mapL_len {f : V → Option (D × List Nat)} : ∀ {vs : List V} {ds : List D} {l : List Nat}, mapL f vs = some (ds, l) → ds.length = vs.length
  | [], ds, l, h => by simp only [mapL, Option.some.injEq, Prod.mk.injEq] at h; obtain ⟨rfl, rfl⟩ := h; rfl
  | v :: r, ds, l, h => by
    simp only [mapL] at h
    split at h
    · rename_i x a xs b h1 h2
      simp only [Option.some.injEq, Prod.mk.injEq] at h
      obtain ⟨rfl, rfl⟩ := h
      simp [mapL_len h2]
    · cases h

theorem RelV.scal {w w' : World} {Pr Pr' : Pro} {p p' : Place} {os os' : List Ob} {n : Nat} {r : V} {v : Value} (h : RelV w Pr p os r v) (hs : r.scal = true) : RelV w' Pr' p' os' (r.shift n) v := by
  have leaf : ∀ {x : D} {v : Value}, x.scal = true → RelD w Pr x v → RelD w' Pr' x v := by
    intro x v hx hr
    cases x <;> first | (simp [D.scal] at hx; done) | skip
    cases hr; exact .val _
  cases r with
  | d x => cases h with
    | d h => exact .d (leaf (by simpa [V.scal] using hs) h)
  | tup cs => cases h with
    | @tup _ vs hz hr =>
      refine .tup (by simpa using hz) fun i hi => ?_
      simp at hi ⊢
      have h1 := hr i hi
      simp only [V.scal, List.all_eq_true] at hs
      have h2 := hs _ (List.getElem_mem hi)
      generalize cs[i] = c at h1 h2
      cases c with
      | d x => cases h1 with
        | d h => exact .d (leaf h2 h)
      | _ => simp at h2
  | _ => simp [V.scal] at hs

/-- A call of the plain machine, in the middle of a body. -/
theorem callK_sound {nF : Nat} {w : World} {Pr : Pro} {p : Place} {st : St} {tmps : Array Value} {K : V → St → Prop} (hC : ∀ f a os r os', C f a os r os' → Says P gl f a os r os')
    (hM : Mem w Pr p st.os) (hG : GOk gl w Pr p st.os) (hE : EnvR w Pr p st.os tmps st.env) (hnF : nF ≤ st.os.length) {n : FuncId} {vs : List V} {vals : Array Value} (hl : vals.size = vs.length)
    (hr : ∀ i (hi : i < vs.length), RelV w Pr p st.os vs[i] (vals[i]'(by omega))) (h : callK C st n vs K) :
    (∃ fn, P.funcs[n]? = some fn ∧ (fn.name == "runtime.NumGoroutine") = false ∧ fn.body.isNone = false) ∧
    Calls P n vals w fun e w' => ∃ v s u Pr' p', e = .returned u ∧ K v s ∧ Got nF w w' Pr Pr' p p' st s tmps ∧ RelV w' Pr' p' s.os v u := by
  rcases h with ⟨ds, l, r, N, h1, h2, h3, h4⟩ | ⟨r, os', h2, h4⟩
  · obtain ⟨Pr1, m1, s1, c1, f1⟩ := frozenM (nF := nF) hnF l hM
    obtain ⟨d1, d2⟩ := mapL_rel (fun h hz hr => leaf_rel hM s1 h hz hr) h1 f1
    obtain ⟨hx, hcall⟩ := hC _ _ _ _ _ h2
    refine ⟨hx, (hcall w Pr1 p vals m1.mem.none (hG.stab s1).none (by simp; omega) (fun i hi => by
      simp at hi ⊢
      exact .d (d2 i (by omega) hi _ (hr i (by omega))))).mono ?_⟩
    rintro e w' ⟨v, Pr', q, rfl, hI, hv⟩
    by_cases hs : r.scal = true ∧ N = []
    · obtain ⟨hs, rfl⟩ := hs
      rw [if_pos ⟨hs, rfl⟩] at h4
      have hfb : ∀ k, ¬ Ghost.fb ⟨w, Pr1, p, []⟩ k := by rintro k ⟨o, ob, h1, _⟩; simp at h1
      have hI2 : Inv ⟨w, Pr, p, []⟩ w' Pr p [] := by
        refine ⟨⟨fun b i hp => Nat.lt_of_lt_of_le (hM.prIn b i hp) hI.frm.size, fun o ob ho => by simp at ho, fun o o' a b ha => by simp at ha, fun o ob ho => by simp at ho⟩,
          ⟨hI.frm.os, hI.frm.tape, hI.frm.output, hI.frm.size, fun k hk _ => hI.frm.block k hk (hfb k)⟩, ⟨fun _ _ h => h, fun b i v hp hc => hI.stab.cell b i v (s1.pr _ _ hp) hc⟩, fun b i hp => .inl hp, .refl _ _, fun o ob ho => by simp at ho⟩
      obtain ⟨m, s2, c2⟩ := Mem.join (N := []) hM hI2 (by simp) hnF
      simp only [List.append_nil] at m c2
      exact ⟨_, _, v, Pr, _, rfl, h4, ⟨m, EnvR.moved s2 c2 hE⟩, hv.scal hs⟩
    · rw [if_neg hs] at h4
      obtain ⟨m, s2, c2⟩ := Mem.join m1.mem hI h3 (Nat.le_trans hnF c1.len)
      have hlen : (freeze st.os l).length = st.os.length := freeze_len _ _
      refine ⟨_, _, v, Pr', _, rfl, h4, ⟨m1.trans m, EnvR.moved (s1.trans s2) (c1.trans c2) hE⟩, ?_⟩
      have := hv.shift (p := p) (os := freeze st.os l)
      rw [hlen] at this
      rw [hlen]
      exact this
  · obtain ⟨hx, hcall⟩ := hC _ _ _ _ _ h2
    refine ⟨hx, (hcall w Pr p vals hM hG hl hr).mono ?_⟩
    rintro e w' ⟨v, Pr', q, rfl, hI, hv⟩
    exact ⟨_, _, v, Pr', q, rfl, h4, ⟨hI.moved hnF, EnvR.moved hI.stab hI.cmp hE⟩, hv⟩

end
end Go.PL

/- PlWp -/
namespace Go.PL
open Go

/-- The fence that lets all in; in a round or not. -/
def FR (r : Option Nat) : Fence := { Fence.wide with round := r }


section
variable {P : Program} {T : Tab} [TOk T P] {C : Call} {gl : GL} [TG T gl]

theorem Act.getD_put {a : Act} {t k : Tmp} {u : Value} (ht : t < a.tmps.size) : (a.put (some t) u).tmps.getD k undef = if t = k then u else a.tmps.getD k undef := by
  simp only [Act.put, Array.getD_eq_getD_getElem?, Array.getElem?_setIfInBounds]
  by_cases h : t = k
  · subst h; simp [ht]
  · simp [h]

def dOk (nt : Nat) (o : Oper) : Bool := match o.dst with
  | some t => Nat.blt t nt
  | none => true

theorem EnvR.put {w : World} {Pr : Pro} {p : Place} {s : St} {a : Act} {o : Oper} {v : V} {u : Value} (hE : EnvR w Pr p s.os a.tmps s.env) (hv : RelV w Pr p s.os v u) (hd : dOk a.tmps.size o = true) :
    EnvR w Pr p (s.put o.dst v).os (a.put o.dst u).tmps (s.put o.dst v).env := by
  unfold dOk at hd
  cases h : o.dst with
  | none => simpa [St.put, Act.put] using hE
  | some t =>
    rw [h] at hd
    have ht : t < a.tmps.size := by simpa [Nat.blt_eq] using hd
    intro k
    rw [Act.getD_put ht]
    simp only [St.put, look]
    cases hb : Nat.beq t k with
    | true => rw [Nat.eq_of_beq_eq_true hb, if_pos rfl]; exact hv
    | false => rw [if_neg (fun e => by rw [e, Nat.beq_refl] at hb; cases hb)]; exact hE k

theorem put_size (a : Act) (d : Option Tmp) (u : Value) : (a.put d u).tmps.size = a.tmps.size := by cases d <;> simp [Act.put]
theorem put_defers (a : Act) (d : Option Tmp) (u : Value) : (a.put d u).defers = a.defers := by cases d <;> rfl
theorem put_os (s : St) (d : Option Tmp) (v : V) : (s.put d v).os = s.os := by cases d <;> rfl

theorem Rel.got {g : Ghost} {st s : St} {a : Act} {w w' : World} {Pr Pr' : Pro} {p p' : Place} {o : Oper} {v : V} {u : Value} (hd0 : Marks g.w0.heap.size w a.defers) (hI : Inv g w Pr p st.os) (hg : Got g.os0.length w w' Pr Pr' p p' st s a.tmps)
    (hv : RelV w' Pr' p' s.os v u) (hd : dOk a.tmps.size o = true) : Rel g (s.put o.dst v) (a.put o.dst u) w' := by
  refine ⟨⟨Pr', p', ?_, hg.env.put hv hd⟩, by rw [put_defers]; exact hd0.step hI.mem hg.moved.step⟩
  rw [put_os]
  exact hI.step hg.moved.step hg.moved.mem

theorem execOp_value {ρ : Operand → Value} {dst : Option Tmp} {f : Operand} {args : Array Operand} {ats : Array TypeId} {type : TypeId} {pos : String} {after : Array Edge} {guard : Option (Nat × Bool)} {w : World}
    {n : FuncId} {first cap : Array Value} {fn : Func} (hf : ρ f = .func (.func n) first cap) (h1 : P.funcs[n]? = some fn) (h2 : (fn.name == "runtime.NumGoroutine") = false) (h3 : fn.body.isNone = false) :
    (execOp ρ ⟨dst, .call { callee := .value f, args, argTypes := ats }, type, pos, after, guard⟩).run P w = .ok (.enter n (first ++ args.map ρ ++ cap)) w := by
  have h2' : fn.name ≠ "runtime.NumGoroutine" := by simpa using h2
  have h3' : fn.body ≠ none := by intro e; rw [e] at h3; cases h3
  simp [execOp, resolve, hf, Deferred.ofValue, invoke, callFunc, h1, h2', h3']

theorem op1_sound {ro : Option Nat} {m : Nat} {nF nt : Nat} {g : Ghost} {st : St} {a : Act} {w : World} {o : Oper} {K : St → Prop} {next : Act → World → Prop} {Q : Exit → Act → World → Prop}
    (hC : ∀ f a os r os', C f a os r os' → Says P gl f a os r os') (hg : g.os0.length = nF) (hG : GOk gl g.w0 g.Pr0 g.p0 g.os0) (hR : Rel g st a w) (hn : a.tmps.size = nt) (hd : dOk nt o = true) (h : op1K T C nF o st K)
    (hK : ∀ s a' w', K s → Rel g s a' w' → a'.tmps.size = nt → next a' w') : o.wpIn (FR ro) m P a w next Q := by
  obtain ⟨⟨Pr, p, hI, hE⟩, h0⟩ := hR
  have hnF : nF ≤ st.os.length := by rw [← hg]; exact hI.cmp.len
  have fin0 : Out nF w Pr p st a.tmps (fun v s => K (s.put o.dst v)) ((execOp a.eval o).run P w) → o.wpIn (FR ro) m P a w next Q := by
    intro h
    obtain ⟨v, s, u, w', Pr', p', k1, k2, k3, k4⟩ := h
    have hres := hK _ (a.put o.dst u) w' k1 (Rel.got h0 hI (hg ▸ k3) k4 (by rw [hn]; exact hd)) (by rw [put_size]; exact hn)
    have hnd : ∀ c, o.op ≠ .defer c := by
      intro c e
      have k : ∀ r, (execOp a.eval o).run P w ≠ .ok (.value r) w' ∧ (execOp a.eval o).run P w ≠ .ok .skip w' := by
        intro r
        unfold execOp
        rw [e]
        constructor
        · simp only [Sem.run_bind]
          cases (resolve a.eval c o.type).run P w <;> simp [Result.andThen]
        · simp only [Sem.run_bind]
          cases (resolve a.eval c o.type).run P w <;> simp [Result.andThen]
      rcases k2 with k2 | ⟨k2, rfl⟩
      · exact (k _).1 k2
      · exact (k undef).2 k2
    refine ⟨fun _ _ => trivial, ?_⟩
    rw [Oper.semAt_eq _ _ _ hnd]
    rcases k2 with k2 | ⟨k2, rfl⟩
    · rw [k2]; exact hres
    · rw [k2]; exact hres
  have fin : opK T nF st o.op (fun v s => K (s.put o.dst v)) → o.wpIn (FR ro) m P a w next Q := fun h => fin0 (opK_sound hI.mem hE (by rw [TG.ok (T := T) (gl := gl)]; exact (hG.inv hI).dat) hnF o h)
  obtain ⟨dst, op, type, pos, after, guard⟩ := o
  unfold op1K at h
  simp only at h
  split at h
  · rename_i f args ats
    unfold calleeK at h
    have hf := evalR hE f
    have key : ∀ {n : FuncId} {first cap : Array Value} {vs : List V}, a.eval f = .func (.func n) first cap → (hl : (first ++ args.map a.eval ++ cap).size = vs.length) →
        (∀ i (hi : i < vs.length), RelV w Pr p st.os vs[i] ((first ++ args.map a.eval ++ cap)[i]'(by omega))) → callK C st n vs (fun v s => K (s.put dst v)) →
        Oper.wpIn (FR ro) m P ⟨dst, .call { callee := .value f, args, argTypes := ats }, type, pos, after, guard⟩ a w next Q := by
      intro n first cap vs e1 hl hr hk
      obtain ⟨⟨fn, q1, q2, q3⟩, hc⟩ := callK_sound hC hI.mem (hG.inv hI) hE hnF hl hr hk
      refine ⟨fun _ _ => trivial, ?_⟩
      rw [Oper.semAt_eq _ _ _ (by intro c e; cases e), execOp_value (P := P) (w := w) e1 q1 q2 q3, Oper.uponIn_enter]
      refine ⟨(fun e => nomatch e), ?_⟩
      refine (show CallsIn (FR ro) (m - 1) P n _ w _ from (callsIn_wide (n := m - 1)).2 hc).mono ?_
      rintro e w' ⟨v, s, u, Pr', p', rfl, k1, k3, k4⟩
      exact hK _ (a.put dst u) w' k1 (Rel.got (o := ⟨dst, .call { callee := .value f, args, argTypes := ats }, type, pos, after, guard⟩) h0 hI (hg ▸ k3) k4 (by rw [hn]; exact hd)) (by rw [put_size]; exact hn)
    have app : ∀ {fs cs : List V} {first cap : Array Value}, first.size = fs.length → cap.size = cs.length → (∀ i (hi : i < fs.length) (hi' : i < first.size), RelV w Pr p st.os fs[i] first[i]) → (∀ i (hi : i < cs.length) (hi' : i < cap.size), RelV w Pr p st.os cs[i] cap[i]) →
        ∃ hl : (first ++ args.map a.eval ++ cap).size = (fs ++ args.toList.map (ev st.env) ++ cs).length, ∀ i (hi : i < (fs ++ args.toList.map (ev st.env) ++ cs).length), RelV w Pr p st.os (fs ++ args.toList.map (ev st.env) ++ cs)[i] ((first ++ args.map a.eval ++ cap)[i]'(by omega)) := by
      intro fs cs first cap e1 e2 r1 r2
      refine ⟨by simp [e1, e2], fun i hi => ?_⟩
      simp only [List.getElem_append, Array.getElem_append, List.length_append, List.length_map, Array.length_toList, Array.size_append, Array.size_map, List.getElem_map, Array.getElem_map, Array.getElem_toList]
      simp only [e1]
      split
      · split
        · exact r1 _ _ _
        · exact evalR hE _
      · exact r2 _ _ _
    split at h
    · rename_i n x y he
      rw [he] at hf
      generalize hav : a.eval f = av at hf
      cases hf with
      | d hd => cases hd with
        | fn _ _ _ vf vc hs1 hs2 hr1 hr2 =>
          obtain ⟨hl, hr⟩ := app (fs := x.map .d) (cs := y.map .d) (first := vf) (cap := vc) (by simpa using hs1) (by simpa using hs2) (fun i hi hi' => by simp at hi ⊢; exact .d (hr1 i hi)) (fun i hi hi' => by simp at hi ⊢; exact .d (hr2 i hi))
          exact key hav hl hr h
    · rename_i n x y he
      rw [he] at hf
      generalize hav : a.eval f = av at hf
      cases hf with
      | fn hs1 hs2 hr1 hr2 =>
        obtain ⟨hl, hr⟩ := app hs1 hs2 (fun i hi hi' => hr1 i hi) (fun i hi hi' => hr2 i hi)
        exact key hav hl hr h
    · exact h.elim
  · rcases h with h | h
    · exact fin h
    · exact fin0 (out_nilT hI.mem hE h)
  · exact fin h

theorem guard_sound {g : Ghost} {st : St} {a : Act} {w : World} {all : Array Oper} {o : Oper} {run skip : Prop} (hR : Rel g st a w) (h : guardK all o st run skip) :
    (Region.wanted o (yielded all a.tmps) = true ∧ run) ∨ (Region.wanted o (yielded all a.tmps) = false ∧ skip) := by
  obtain ⟨⟨Pr, p, hI, hE⟩, _⟩ := hR
  unfold guardK at h
  unfold Region.wanted
  split at h
  · rename_i hg; rw [hg]; exact .inl ⟨rfl, h⟩
  · rename_i j want hg
    rw [hg]
    simp only
    split at h
    · rename_i t ht
      have hx := hE t
      have hy : yielded all a.tmps j = match a.tmps[t]? with | some (.bool b) => some b | _ => none := by
        unfold yielded; rw [ht]; rfl
      have hgd : a.tmps.getD t undef = (a.tmps[t]?).getD undef := Array.getD_eq_getD_getElem? ..
      split at h
      · rename_i b hb
        rw [hb] at hx
        have hv := hx.bool
        rw [hgd] at hv
        have hsome : a.tmps[t]? = some (.bool b) := by
          cases h9 : a.tmps[t]? with
          | none => rw [h9] at hv; simp [undef] at hv
          | some v => rw [h9] at hv; simp at hv; rw [hv]
        rw [hy, hsome]
        by_cases hbw : b = want
        · subst hbw; exact .inl ⟨by simp, h.1 rfl⟩
        · have : b = !want := by cases b <;> cases want <;> simp_all
          exact .inr ⟨by simpa using hbw, h.2 this⟩
      · rename_i b hb
        rw [hb] at hx
        have hv := hx.val
        rw [hgd] at hv
        have hnone : yielded all a.tmps j = none := by
          rw [hy]
          cases h9 : a.tmps[t]? with
          | none => rfl
          | some v => rw [h9] at hv; simp at hv; rw [hv]
        rw [hnone]
        exact .inr ⟨by simp, h⟩
      · exact h.elim
    · exact h.elim

theorem Rel.undef {g : Ghost} {st : St} {a : Act} {w : World} {o : Oper} (hR : Rel g st a w) (hd : dOk a.tmps.size o = true) : Rel g (st.put o.dst undefV) (a.put o.dst undef) w := by
  obtain ⟨⟨Pr, p, hI, hE⟩, h0⟩ := hR
  exact ⟨⟨Pr, p, by rw [put_os]; exact hI, hE.put (.d (.val _)) hd⟩, by rw [put_defers]; exact h0⟩

theorem opsK_sound {ro : Option Nat} {m : Nat} {nF nt : Nat} {g : Ghost} {all : Array Oper} {K : St → Prop} {Q : Exit → Act → World → Prop} (hC : ∀ f a os r os', C f a os r os' → Says P gl f a os r os') (hg : g.os0.length = nF) (hG : GOk gl g.w0 g.Pr0 g.p0 g.os0)
    (hd : ∀ o ∈ all, dOk nt o = true) (hK : ∀ s a' w', K s → Rel g s a' w' → a'.tmps.size = nt → Q .normal a' w') :
    ∀ (k i : Nat) (st : St) (a : Act) (w : World), i + k = all.size → Rel g st a w → a.tmps.size = nt → opsK T C nF all (all.toList.drop i) st K → wpOpsIn (FR ro) m P all Q (List.range' i k) a w
  | 0, i, st, a, w, hik, hR, hn, h => by
    rw [List.drop_eq_nil_of_le (by simp; omega)] at h
    exact hK st a w h hR hn
  | k + 1, i, st, a, w, hik, hR, hn, h => by
    have hi : i < all.toList.length := by simp; omega
    have ho : all[i]? = some all.toList[i] := by simp [show i < all.size by omega]
    rw [List.drop_eq_getElem_cons hi] at h
    simp only [opsK] at h
    rw [List.range'_succ, wpOpsIn, ho]
    simp only
    have hdo : dOk nt all.toList[i] = true := hd _ (by rw [← Array.mem_toList_iff]; exact List.getElem_mem hi)
    rcases guard_sound hR h with ⟨h1, h2⟩ | ⟨h1, h2⟩
    · rw [if_pos h1]
      exact (op1_sound hC hg hG hR hn hdo h2 fun s a' w' h3 h4 h5 => opsK_sound hC hg hG hd hK k (i + 1) s a' w' (by omega) h4 h5 h3)
    · rw [if_neg (by rw [h1]; simp)]
      refine ⟨fun _ _ => trivial, ?_⟩
      exact opsK_sound hC hg hG hd hK k (i + 1) _ _ w (by omega) (hR.undef (by rw [hn]; exact hdo)) (by rw [put_size]; exact hn) h2

end
end Go.PL
