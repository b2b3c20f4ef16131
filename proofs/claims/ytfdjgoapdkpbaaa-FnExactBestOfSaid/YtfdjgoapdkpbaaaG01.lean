/- A plain machine, sound for the given model, and contracts of functions over it, part 1: PlRel PlStep PlFreeze PlLeaf PlOps PlOps2 PlOps3. Nothing is assumed. -/
import Derived.Test.YtfdjgoapdkpbaaaPlCore
import Derived.Laws.AppendOwn
import Derived.Laws.MakeOwn
import Derived.Laws.CopyRow
import Derived.Laws.Cells
import Derived.Laws.Concat
set_option linter.unusedSimpArgs false
set_option linter.unusedVariables false
set_option linter.unusedSectionVars false
/- PlRel -/
/- How memory holds data, half-open values and objects. -/
namespace Go.PL
open Go

def cellAt (w : World) (b i : Nat) : Option Value := w.cell? ⟨b, i, none⟩

abbrev Pro := Nat → Nat → Prop

inductive RelD (w : World) (Pr : Pro) : D → Value → Prop where
  | val (v : Value) : RelD w Pr (.val v) v
  | nil (A : Option Addr) (cap : Nat) : RelD w Pr (.sl []) (.slice A 0 cap)
  | sl (es : List D) (b off cap sz : Nat) (vs : Nat → Nat → Value) (hcap : es.length ≤ cap)
      (hsz : ∀ i (hi : i < es.length), es[i].cells.length = sz)
      (hp : ∀ i j, i < es.length → j < sz → Pr b (off + i * sz + j))
      (hc : ∀ i j, i < es.length → j < sz → cellAt w b (off + i * sz + j) = some (vs i j))
      (hr : ∀ i (hi : i < es.length) j (hj : j < es[i].cells.length), RelD w Pr (es[i].cells[j]) (vs i j)) :
      RelD w Pr (.sl es) (.slice (some ⟨b, off, none⟩) es.length cap)
  | agg (cs : List D) (vs : Array Value) (hs : vs.size = cs.length)
      (hr : ∀ i (hi : i < cs.length), RelD w Pr cs[i] (vs[i]'(by omega))) : RelD w Pr (.agg cs) (.agg vs)
  | ptr (cs : List D) (b off : Nat) (vs : Nat → Value)
      (hp : ∀ j, j < cs.length → Pr b (off + j))
      (hc : ∀ j, j < cs.length → cellAt w b (off + j) = some (vs j))
      (hr : ∀ j (hj : j < cs.length), RelD w Pr cs[j] (vs j)) : RelD w Pr (.ptr cs) (.pointer (some ⟨b, off, none⟩))
  | fn (f : Fn) (first cap : List D) (vf vc : Array Value) (hf : vf.size = first.length) (hcz : vc.size = cap.length)
      (hrf : ∀ i (hi : i < first.length), RelD w Pr first[i] (vf[i]'(by omega)))
      (hrc : ∀ i (hi : i < cap.length), RelD w Pr cap[i] (vc[i]'(by omega))) : RelD w Pr (.fn f first cap) (.func f vf vc)

/-- What is read as data stays, and may become more. -/
structure Stab (w w' : World) (Pr Pr' : Pro) : Prop where
  pr : ∀ b i, Pr b i → Pr' b i
  cell : ∀ b i v, Pr b i → cellAt w b i = some v → cellAt w' b i = some v

theorem Stab.refl (w : World) (Pr : Pro) : Stab w w Pr Pr := ⟨fun _ _ h => h, fun _ _ _ _ h => h⟩

theorem RelD.mono {w w' : World} {Pr Pr' : Pro} (hs : Stab w w' Pr Pr') {d : D} {v : Value} (h : RelD w Pr d v) : RelD w' Pr' d v := by
  induction h with
  | val v => exact .val v
  | nil A cap => exact .nil A cap
  | sl es b off cap sz vs hcap hsz hp1 hc hr ih =>
    exact .sl es b off cap sz vs hcap hsz (fun i j hi hj => hs.pr _ _ (hp1 i j hi hj)) (fun i j hi hj => hs.cell _ _ _ (hp1 i j hi hj) (hc i j hi hj)) ih
  | agg cs vs hz hr ih => exact .agg cs vs hz ih
  | ptr cs b off vs hp1 hc hr ih =>
    exact .ptr cs b off vs (fun j hj => hs.pr _ _ (hp1 j hj)) (fun j hj => hs.cell _ _ _ (hp1 j hj) (hc j hj)) ih
  | fn f first cap vf vc hf hcz hrf hrc ihf ihc => exact .fn f first cap vf vc hf hcz ihf ihc

theorem RelD.one {w : World} {Pr : Pro} {d : D} {v : Value} (h : RelD w Pr d v) (h1 : d.one = true) : v.oneCell' = true := by
  cases h with
  | val v => cases v <;> first | rfl | simp [D.one] at h1
  | nil A cap => rfl
  | sl es b off cap sz vs hcap hsz hp1 hc hr => rfl
  | agg cs vs hz hr => simp [D.one] at h1
  | ptr => rfl
  | fn => rfl

/-- A slice, what its cells hold, and so on, each in blocks of its own, out of a set of blocks. -/
inductive Tr (w : World) : (Nat → Prop) → D → Value → Prop where
  | val {S : Nat → Prop} (v : Value) : Tr w S (.val v) v
  | nil {S : Nat → Prop} (A : Option Addr) (cap : Nat) : Tr w S (.sl []) (.slice A 0 cap)
  | sl {S : Nat → Prop} (es : List D) (b cap room sz : Nat) (vs : Array Value) (et : TypeId) (col : Nat → Nat) (u : Nat → Nat → Value) (hb : S b) (hw : w.heap[b]? = some (.cells vs et (0, 0)))
      (hs : vs.size = room * sz) (h1 : es.length ≤ cap) (h2 : cap ≤ room) (h3 : room ≤ maxLen) (hsz : ∀ i (hi : i < es.length), es[i].cells.length = sz)
      (hc : ∀ i j, i < es.length → j < sz → vs[i * sz + j]? = some (u i j) ∧ (u i j).oneCell' = true)
      (hr : ∀ i (hi : i < es.length) j (hj : j < es[i].cells.length), Tr w (fun k => S k ∧ k ≠ b ∧ col k = i * sz + j) (es[i].cells[j]) (u i j)) : Tr w S (.sl es) (.slice (some ⟨b, 0, none⟩) es.length cap)

theorem Tr.mono {w w' : World} {S : Nat → Prop} {d : D} {v : Value} (h : Tr w S d v) : ∀ {S' : Nat → Prop}, (∀ k, S k → S' k ∧ w'.heap[k]? = w.heap[k]?) → Tr w' S' d v := by
  induction h with
  | val v => exact fun _ => .val v
  | nil A cap => exact fun _ => .nil A cap
  | sl es b cap room sz vs et col u hb hw hs h1 h2 h3 hsz hc hr ih =>
    intro S' h
    exact .sl es b cap room sz vs et col u (h b hb).1 ((h b hb).2.trans hw) hs h1 h2 h3 hsz hc fun i hi j hj => ih i hi j hj fun k hk => ⟨⟨(h k hk.1).1, hk.2⟩, (h k hk.1).2⟩

theorem Tr.rel {w : World} {S : Nat → Prop} {d : D} {v : Value} (h : Tr w S d v) {Pr : Pro} (hp : ∀ k i, S k → Pr k i) : RelD w Pr d v := by
  induction h with
  | val v => exact .val v
  | nil A cap => exact .nil A cap
  | sl es b cap room sz vs et col u hb hw hs h1 h2 h3 hsz hc hr ih =>
    refine .sl es b 0 cap sz u h1 hsz (fun i j _ _ => hp _ _ hb) (fun i j hi hj => ?_) fun i hi j hj => ih i hi j hj fun k i hk => hp k i hk.1
    obtain ⟨k1, k2⟩ := hc i j hi hj
    simp [cellAt, World.cell?, hw, k1]

theorem D.fl1_tr {w : World} {Pr : Pro} {d : D} {v : Value} (hf : d.fl1 = true) (h : RelD w Pr d v) (w' : World) (S : Nat → Prop) : Tr w' S d v := by
  cases h with
  | val v => exact .val v
  | nil A cap => exact .nil A cap
  | sl es b off cap sz vs hcap hsz hp hc hr =>
    cases es with
    | nil => exact .nil _ _
    | cons => simp [D.fl1] at hf
  | _ => simp [D.fl1] at hf

theorem D.fl1_rel {w w' : World} {S : Nat → Prop} {Pr : Pro} {d : D} {v : Value} (hf : d.fl1 = true) (h : Tr w S d v) : RelD w' Pr d v := by
  cases h with
  | val v => exact .val v
  | nil A cap => exact .nil A cap
  | sl es b off cap sz vs hcap hsz hp hc hr =>
    cases es with
    | nil => exact .nil _ _
    | cons => simp [D.fl1] at hf

/-- Where the objects lie: an object's block; how many elements its array has room for; which cell of which object owns a block. -/
structure Place where
  bl : Nat → Nat
  room : Nat → Nat
  ow : Nat → Option (Nat × Nat)

inductive RelV (w : World) (Pr : Pro) (p : Place) (os : List Ob) : V → Value → Prop where
  | d {x : D} {v : Value} (h : RelD w Pr x v) : RelV w Pr p os (.d x) v
  | ref {o i j : Nat} {a : Addr} (ho : o < os.length) (h : ∀ ob, os[o]? = some ob → ob ≠ .dead → a = ⟨p.bl o, i * ob.sz + j, none⟩) :
      RelV w Pr p os (.ref o i j) (.pointer (some a))
  | msl {o off len : Nat} {A : Option Addr} {cap : Nat} (ho : o < os.length) (hc : len ≤ cap) (hn : len = 0 ∨ A.isSome = true)
      (h : ∀ ob sz n, os[o]? = some ob → ob.al = some (sz, n) → (A = some ⟨p.bl o, off * sz, none⟩ ∨ cap = 0) ∧ off + len ≤ n ∧ off + cap ≤ p.room o) :
      RelV w Pr p os (.msl o off len) (.slice A len cap)
  | agg {cs : List V} {vs : Array Value} (hs : vs.size = cs.length)
      (hr : ∀ i (hi : i < cs.length), RelV w Pr p os cs[i] (vs[i]'(by omega))) : RelV w Pr p os (.agg cs) (.agg vs)
  | fn {f : Fn} {first cap : List V} {vf vc : Array Value} (hf : vf.size = first.length) (hcz : vc.size = cap.length)
      (hrf : ∀ i (hi : i < first.length), RelV w Pr p os first[i] (vf[i]'(by omega)))
      (hrc : ∀ i (hi : i < cap.length), RelV w Pr p os cap[i] (vc[i]'(by omega))) : RelV w Pr p os (.fn f first cap) (.func f vf vc)
  | tup {cs : List V} {vs : Array Value} (hs : vs.size = cs.length)
      (hr : ∀ i (hi : i < cs.length), RelV w Pr p os cs[i] (vs[i]'(by omega))) : RelV w Pr p os (.tup cs) (.tuple vs)
  | any {v : Value} : RelV w Pr p os .any v

/-- What lives later lived before, at the same place. -/
structure Cmp (p p' : Place) (os os' : List Ob) : Prop where
  len : os.length ≤ os'.length
  live : ∀ o ob', o < os.length → os'[o]? = some ob' → ob' ≠ .dead → ∃ ob, os[o]? = some ob ∧ ob ≠ .dead ∧ p'.bl o = p.bl o ∧ p'.room o = p.room o ∧ ob'.sz = ob.sz
  arr : ∀ o ob' sz n', o < os.length → os'[o]? = some ob' → ob'.al = some (sz, n') → ∃ ob n, os[o]? = some ob ∧ ob.al = some (sz, n) ∧ n ≤ n'

theorem Ob.al_sz {ob : Ob} {sz n : Nat} (h : ob.al = some (sz, n)) : ob.sz = sz ∧ ob ≠ .dead := by
  cases ob <;> simp [Ob.al, Ob.sz] at h ⊢ <;> exact h.1

theorem sizeIs_al {os : List Ob} {o n : Nat} (h : sizeIs os o n) : ∃ ob m, os[o]? = some ob ∧ ob.al = some (n, m) := by
  unfold sizeIs at h
  split at h
  · rename_i sz es fz ho; subst h; exact ⟨_, _, ho, rfl⟩
  · rename_i sz es ho; subst h; exact ⟨_, _, ho, rfl⟩
  · exact h.elim

theorem Cmp.refl (p : Place) (os : List Ob) : Cmp p p os os :=
  ⟨Nat.le_refl _, fun _ ob' _ h hd => ⟨ob', h, hd, rfl, rfl, rfl⟩, fun _ ob' _ n' _ h h2 => ⟨ob', n', h, h2, Nat.le_refl _⟩⟩

theorem Cmp.trans {p p' p'' : Place} {a b c : List Ob} (h : Cmp p p' a b) (k : Cmp p' p'' b c) : Cmp p p'' a c := by
  refine ⟨Nat.le_trans h.len k.len, ?_, ?_⟩
  · intro o ob' ho h1 h2
    obtain ⟨ob, h3, h4, h5, h6, h7⟩ := k.live o ob' (Nat.lt_of_lt_of_le ho h.len) h1 h2
    obtain ⟨ob0, g3, g4, g5, g6, g7⟩ := h.live o ob ho h3 h4
    exact ⟨ob0, g3, g4, h5.trans g5, h6.trans g6, h7.trans g7⟩
  · intro o ob' sz n' ho h1 h1'
    obtain ⟨ob, n, h2, h2', h3⟩ := k.arr o ob' sz n' (Nat.lt_of_lt_of_le ho h.len) h1 h1'
    obtain ⟨ob0, n0, h4, h4', h5⟩ := h.arr o ob sz n ho h2 h2'
    exact ⟨ob0, n0, h4, h4', Nat.le_trans h5 h3⟩

theorem RelV.cmp {w w' : World} {Pr Pr' : Pro} {p p' : Place} {os os' : List Ob} (hs : Stab w w' Pr Pr') (hc : Cmp p p' os os') {x : V} {v : Value}
    (h : RelV w Pr p os x v) : RelV w' Pr' p' os' x v := by
  induction h with
  | d h => exact .d (h.mono hs)
  | @ref o i j a ho h =>
    refine .ref (Nat.lt_of_lt_of_le ho hc.len) fun ob' h1 h2 => ?_
    obtain ⟨ob, h3, h4, h5, _, h7⟩ := hc.live o ob' ho h1 h2
    rw [h ob h3 h4, h5, h7]
  | @msl o off len A cap ho hl hn h =>
    refine .msl (Nat.lt_of_lt_of_le ho hc.len) hl hn fun ob' sz n' h1 h1' => ?_
    obtain ⟨ob, n, h2, h2', h3⟩ := hc.arr o ob' sz n' ho h1 h1'
    obtain ⟨ob, g3, g4, g5, g6, g7⟩ := hc.live o _ ho h1 (Ob.al_sz h1').2
    obtain ⟨a1, a2, a3⟩ := h _ sz n h2 h2'
    rw [g5, g6]
    exact ⟨a1, by omega, a3⟩
  | agg hz hr ih => exact .agg hz ih
  | fn hf hcz hrf hrc ihf ihc => exact .fn hf hcz ihf ihc
  | tup hz hr ih => exact .tup hz ih
  | any => exact .any

theorem RelV.one {w : World} {Pr : Pro} {p : Place} {os : List Ob} {x : V} {v : Value} (h : RelV w Pr p os x v) (h1 : x.one = true) : v.oneCell' = true := by
  cases h with
  | d h => exact h.one h1
  | ref => rfl
  | msl => rfl
  | agg => simp [V.one] at h1
  | fn => rfl
  | tup => simp [V.one] at h1
  | any => simp [V.one] at h1

/-- What a tree's cell holds: what is its own, or what a frame's value may be. -/
def RelC (w : World) (Pr : Pro) (p : Place) (os : List Ob) (S : Nat → Prop) : V → Value → Prop
  | .d x, v => Tr w S x v
  | c, v => RelV w Pr p os c v

theorem RelC.cmp {w w' : World} {Pr Pr' : Pro} {p p' : Place} {os os' : List Ob} (hs : Stab w w' Pr Pr') (hc : Cmp p p' os os') {S S' : Nat → Prop} (hS : ∀ k, S k → S' k ∧ w'.heap[k]? = w.heap[k]?) {x : V} {v : Value}
    (h : RelC w Pr p os S x v) : RelC w' Pr' p' os' S' x v := by
  cases x with
  | d x => exact Tr.mono h hS
  | _ => exact RelV.cmp hs hc h

theorem RelC.of_lo {w w' : World} {Pr : Pro} {p : Place} {os : List Ob} {S : Nat → Prop} {x : V} {v : Value} (hx : x.lo = true) (h : RelV w Pr p os x v) : RelC w Pr p os S x v := by
  cases x with
  | d x => cases h with | d h => exact D.fl1_tr hx h _ _
  | _ => exact h

theorem RelC.lo {w : World} {Pr : Pro} {p : Place} {os : List Ob} {S : Nat → Prop} {x : V} {v : Value} (hx : x.lo = true) (h : RelC w Pr p os S x v) : RelV w Pr p os x v := by
  cases x with
  | d x => exact .d (D.fl1_rel hx h)
  | _ => exact h

def ObRel (w : World) (Pr : Pro) (p : Place) (os : List Ob) (o : Nat) : Ob → Prop
  | .var cs fz => ∃ vs et, w.heap[p.bl o]? = some (.cells vs et (0, 0)) ∧ vs.size = cs.length ∧
      (∀ j (_ : j < cs.length), ∃ v, vs[j]? = some v ∧ v.oneCell' = true ∧ RelV w Pr p os cs[j] v) ∧ (∀ j, Pr (p.bl o) j ↔ fz = true ∧ j < cs.length)
  | .arr sz es fz => ∃ vs et, w.heap[p.bl o]? = some (.cells vs et (0, 0)) ∧ vs.size = p.room o * sz ∧ es.length ≤ p.room o ∧ p.room o ≤ maxLen ∧
      (∀ i (_ : i < es.length), es[i].cells.length = sz) ∧
      (∀ i (_ : i < es.length) j (_ : j < es[i].cells.length), ∃ v, vs[i * sz + j]? = some v ∧ v.oneCell' = true ∧ RelD w Pr es[i].cells[j] v) ∧
      (∀ j, Pr (p.bl o) j ↔ fz = true ∧ j < es.length * sz)
  | .dead => True
  | .tree sz es => ∃ vs et, w.heap[p.bl o]? = some (.cells vs et (0, 0)) ∧ vs.size = p.room o * sz ∧ es.length ≤ p.room o ∧ p.room o ≤ maxLen ∧
      (∀ i (_ : i < es.length), es[i].cells.length = sz) ∧
      (∀ i (_ : i < es.length) j (_ : j < es[i].cells.length), ∃ v, vs[i * sz + j]? = some v ∧ v.oneCell' = true ∧ RelC w Pr p os (fun k => p.ow k = some (o, i * sz + j)) es[i].cells[j] v) ∧
      (∀ j, ¬ Pr (p.bl o) j)

/-- A block of cells. -/
def isC (w : World) (k : Nat) : Prop := ∃ vs et, w.heap[k]? = some (.cells vs et (0, 0))
theorem isC.lt {w : World} {k : Nat} (h : isC w k) : k < w.heap.size := by obtain ⟨vs, et, h⟩ := h; exact (Array.getElem?_eq_some_iff.1 h).1
theorem isC.of {w w' : World} {k : Nat} (h : isC w k) (e : w'.heap[k]? = w.heap[k]?) : isC w' k := by obtain ⟨vs, et, h⟩ := h; exact ⟨vs, et, e.trans h⟩

structure Mem (w : World) (Pr : Pro) (p : Place) (os : List Ob) : Prop where
  prIn : ∀ b i, Pr b i → b < w.heap.size
  blk : ∀ o ob, os[o]? = some ob → ob ≠ .dead → p.bl o < w.heap.size
  inj : ∀ o o' ob ob', os[o]? = some ob → os[o']? = some ob' → ob ≠ .dead → ob' ≠ .dead → p.bl o = p.bl o' → o = o'
  ob : ∀ o ob, os[o]? = some ob → ObRel w Pr p os o ob
  own : ∀ o ob k c, os[o]? = some ob → ob.isTree = true → p.ow k = some (o, c) → isC w k ∧ (∀ i, ¬ Pr k i) ∧ ∀ o' ob', os[o']? = some ob' → ob' ≠ .dead → p.bl o' ≠ k

/-- The blocks that objects hold. -/
def Oc (p : Place) (os : List Ob) (k : Nat) : Prop := ∃ o ob, os[o]? = some ob ∧ ob ≠ .dead ∧ (p.bl o = k ∨ (ob.isTree = true ∧ ∃ c, p.ow k = some (o, c)))

theorem Oc.nil {p : Place} {k : Nat} : ¬ Oc p [] k := by rintro ⟨o, ob, h, _⟩; simp at h

/-- An object's block is as it was; what it holds is held still. -/
theorem ObRel.mono {w w' : World} {Pr Pr' : Pro} {p p' : Place} {os os' : List Ob} {o : Nat} {ob : Ob} (hs : Stab w w' Pr Pr') (hc : Cmp p p' os os')
    (hb : ob ≠ .dead → p'.bl o = p.bl o ∧ p'.room o = p.room o ∧ w'.heap[p.bl o]? = w.heap[p.bl o]? ∧ ∀ j, Pr' (p.bl o) j ↔ Pr (p.bl o) j)
    (ht : ob.isTree = true → ∀ k c, p.ow k = some (o, c) → p'.ow k = some (o, c) ∧ w'.heap[k]? = w.heap[k]?) (h : ObRel w Pr p os o ob) : ObRel w' Pr' p' os' o ob := by
  cases ob with
  | tree sz es =>
    obtain ⟨h1, h2, h3, h4⟩ := hb (by simp)
    obtain ⟨vs, et, g1, g2, g3, g4, g5, g6, g7⟩ := h
    refine ⟨vs, et, by rw [h1, h3]; exact g1, by rw [h2]; exact g2, by rw [h2]; exact g3, by rw [h2]; exact g4, g5, fun i hi j hj => ?_, fun j => by rw [h1, h4]; exact g7 j⟩
    obtain ⟨v, k1, k2, k3⟩ := g6 i hi j hj
    exact ⟨v, k1, k2, k3.cmp hs hc fun k hk => ht rfl k _ hk⟩
  | var cs fz =>
    obtain ⟨h1, h2, h3, h4⟩ := hb (by simp)
    obtain ⟨vs, et, g1, g2, g3, g4⟩ := h
    refine ⟨vs, et, by rw [h1, h3]; exact g1, g2, fun j hj => ?_, fun j => by rw [h1, h4, g4]⟩
    obtain ⟨v, k1, k2, k3⟩ := g3 j hj
    exact ⟨v, k1, k2, k3.cmp hs hc⟩
  | arr sz es fz =>
    obtain ⟨h1, h2, h3, h4⟩ := hb (by simp)
    obtain ⟨vs, et, g1, g2, g3, g4, g5, g6, g7⟩ := h
    refine ⟨vs, et, by rw [h1, h3]; exact g1, by rw [h2]; exact g2, by rw [h2]; exact g3, by rw [h2]; exact g4, g5, fun i hi j hj => ?_, fun j => by rw [h1, h4, g7]⟩
    obtain ⟨v, k1, k2, k3⟩ := g6 i hi j hj
    exact ⟨v, k1, k2, k3.mono hs⟩
  | dead => trivial

theorem DLe.rel {w : World} {Pr : Pro} {x y : D} (h : DLe x y) : (∀ v, RelD w Pr x v → RelD w Pr y v) ∧
    ∃ e : x.cells.length = y.cells.length, ∀ j (hj : j < x.cells.length) v, RelD w Pr x.cells[j] v → RelD w Pr (y.cells[j]'(by omega)) v := by
  induction h with
  | refl x => exact ⟨fun _ h => h, rfl, fun _ _ _ h => h⟩
  | nil =>
    have key : ∀ v, RelD w Pr (.val (.slice none 0 0)) v → RelD w Pr (.sl []) v := by
      intro v h; cases h; exact .nil none 0
    refine ⟨key, rfl, fun j hj v h => ?_⟩
    have : j = 0 := by simp [D.cells] at hj; omega
    subst this
    exact key v h
  | @agg cs ds hl h ih =>
    refine ⟨fun v hv => ?_, hl, fun j hj v hv => (ih j hj).1 v hv⟩
    cases hv with
    | agg _ vs hs hr => exact .agg ds vs (by omega) fun i hi => (ih i (by omega)).1 _ (hr i (by omega))
  | @sl cs ds hl h ih =>
    have key : ∀ v, RelD w Pr (.sl cs) v → RelD w Pr (.sl ds) v := by
      intro v hv
      cases hv with
      | nil A cap =>
        have : ds = [] := List.eq_nil_of_length_eq_zero (by simpa using hl.symm)
        subst this; exact .nil A cap
      | sl _ b off cap sz vs hcap hsz hp hc hr =>
        have e := RelD.sl (w := w) (Pr := Pr) ds b off cap sz vs (by omega) (fun i hi => by obtain ⟨e, _⟩ := (ih i (by omega)).2; rw [← e]; exact hsz i (by omega)) (fun i j hi hj => hp i j (by omega) hj) (fun i j hi hj => hc i j (by omega) hj)
          (fun i hi j hj => by obtain ⟨e, k⟩ := (ih i (by omega)).2; exact k j (by omega) _ (hr i (by omega) j (by omega)))
        rw [← hl] at e
        exact e
    refine ⟨key, rfl, fun j hj v h => ?_⟩
    have : j = 0 := by simp [D.cells] at hj; omega
    subst this
    exact key v h
  | @ptr cs ds hl h ih =>
    have key : ∀ v, RelD w Pr (.ptr cs) v → RelD w Pr (.ptr ds) v := by
      intro v hv
      cases hv with
      | ptr _ b off vs hp hc hr => exact .ptr ds b off vs (fun j hj => hp j (by omega)) (fun j hj => hc j (by omega)) (fun j hj => (ih j (by omega)).1 _ (hr j (by omega)))
    refine ⟨key, rfl, fun j hj v h => ?_⟩
    have : j = 0 := by simp [D.cells] at hj; omega
    subst this
    exact key v h

theorem DLe.tr {x y : D} (h : DLe x y) : (∀ w S v, Tr w S x v → Tr w S y v) ∧
    ∃ e : x.cells.length = y.cells.length, ∀ j (hj : j < x.cells.length) w S v, Tr w S x.cells[j] v → Tr w S (y.cells[j]'(by omega)) v := by
  have one : ∀ {x y : D} (_ : ∀ w S v, Tr w S x v → Tr w S y v) (hx : x.cells = [x]) (hy : y.cells = [y]), ∃ e : x.cells.length = y.cells.length, ∀ j (hj : j < x.cells.length) w S v, Tr w S x.cells[j] v → Tr w S (y.cells[j]'(by omega)) v := by
    intro x y h hx hy
    refine ⟨by rw [hx, hy]; rfl, fun j hj w S v => ?_⟩
    have : j = 0 := by rw [hx] at hj; simp at hj; exact hj
    subst this
    simp only [hx, hy, List.getElem_cons_zero]
    exact h w S v
  induction h with
  | refl x => exact ⟨fun _ _ _ h => h, rfl, fun _ _ _ _ _ h => h⟩
  | nil =>
    have key : ∀ w S v, Tr w S (.val (.slice none 0 0)) v → Tr w S (.sl []) v := by
      intro w S v h; cases h; exact .nil none 0
    exact ⟨key, one key rfl rfl⟩
  | @agg cs ds hl h ih =>
    refine ⟨fun w S v hv => by (cases hv), hl, fun j hj w S v hv => (ih j hj).1 w S v hv⟩
  | @sl cs ds hl h ih =>
    have key : ∀ w S v, Tr w S (.sl cs) v → Tr w S (.sl ds) v := by
      intro w S v hv
      cases hv with
      | nil A cap =>
        have : ds = [] := List.eq_nil_of_length_eq_zero (by simpa using hl.symm)
        subst this; exact .nil A cap
      | sl _ b cap room sz vs et col u hb hw hs h1 h2 h3 hsz hc hr =>
        have e := Tr.sl (w := w) (S := S) ds b cap room sz vs et col u hb hw hs (by omega) h2 h3 (fun i hi => by obtain ⟨e, _⟩ := (ih i (by omega)).2; rw [← e]; exact hsz i (by omega)) (fun i j hi hj => hc i j (by omega) hj)
          (fun i hi j hj => by obtain ⟨e, k⟩ := (ih i (by omega)).2; exact k j (by omega) _ _ _ (hr i (by omega) j (by omega)))
        rw [← hl] at e
        exact e
    exact ⟨key, one key rfl rfl⟩
  | @ptr cs ds hl h ih =>
    have key : ∀ w S v, Tr w S (.ptr cs) v → Tr w S (.ptr ds) v := by
      intro w S v hv; cases hv
    exact ⟨key, one key rfl rfl⟩

theorem VLe.rel {w : World} {Pr : Pro} {p : Place} {os : List Ob} {x y : V} (h : VLe x y) : ∀ {v : Value}, RelV w Pr p os x v → RelV w Pr p os y v := by
  induction h with
  | refl x => exact fun h => h
  | any x => exact fun _ => .any
  | d h =>
    intro v hv
    cases hv with
    | d hv => exact .d (h.rel.1 _ hv)
  | @agg cs ds hl h ih =>
    intro v hv
    cases hv with
    | agg hs hr => exact .agg (by omega) fun i hi => ih i (by omega) (hr i (by omega))
  | @tup cs ds hl h ih =>
    intro v hv
    cases hv with
    | tup hs hr => exact .tup (by omega) fun i hi => ih i (by omega) (hr i (by omega))

theorem ObLe.fz {a b : Ob} (h : ObLe a b) : (a = .dead ↔ b = .dead) ∧ a.sz = b.sz := by
  cases h with
  | refl => exact ⟨.rfl, rfl⟩
  | var hl => exact ⟨by simp, hl⟩
  | arr hl => exact ⟨by simp, rfl⟩
  | tree hl => exact ⟨by simp, rfl⟩

theorem ObLe.al {a b : Ob} (h : ObLe a b) : a.al = b.al ∧ a.isTree = b.isTree := by
  cases h with
  | refl => exact ⟨rfl, rfl⟩
  | var hl => exact ⟨rfl, rfl⟩
  | arr hl => exact ⟨by simp [Ob.al, hl], rfl⟩
  | tree hl => exact ⟨by simp [Ob.al, hl], rfl⟩

theorem ObLe.cmp {p : Place} {os os' : List Ob} (hl : os.length = os'.length) (ho : ∀ i (hi : i < os.length), ObLe os[i] (os'[i]'(by omega))) : Cmp p p os os' := by
  refine ⟨by omega, fun o ob' h1 h2 hd => ?_, fun o ob' sz n' h1 h2 h2' => ?_⟩
  · have h3 := ho o h1
    have e : os'[o]'(by omega) = ob' := by rw [List.getElem?_eq_getElem (by omega)] at h2; exact Option.some.inj h2
    rw [e] at h3
    exact ⟨os[o], List.getElem?_eq_getElem h1, fun e2 => hd (h3.fz.1.1 e2), rfl, rfl, h3.fz.2.symm⟩
  · have h3 := ho o h1
    have e : os'[o]'(by omega) = ob' := by rw [List.getElem?_eq_getElem (by omega)] at h2; exact Option.some.inj h2
    rw [e] at h3
    exact ⟨os[o], n', List.getElem?_eq_getElem h1, by rw [h3.al.1]; exact h2', Nat.le_refl _⟩

theorem ObLe.mem {w : World} {Pr : Pro} {p : Place} {os os' : List Ob} (hl : os.length = os'.length) (ho : ∀ i (hi : i < os.length), ObLe os[i] (os'[i]'(by omega))) (hM : Mem w Pr p os) : Mem w Pr p os' := by
  have get : ∀ {o : Nat} {ob' : Ob}, os'[o]? = some ob' → ∃ ob, os[o]? = some ob ∧ ObLe ob ob' := by
    intro o ob' h
    have hlt : o < os'.length := by
      rcases Nat.lt_or_ge o os'.length with h1 | h1
      · exact h1
      · rw [List.getElem?_eq_none h1] at h; cases h
    have e : os'[o] = ob' := by rw [List.getElem?_eq_getElem hlt] at h; exact Option.some.inj h
    refine ⟨os[o]'(by omega), List.getElem?_eq_getElem (by omega), ?_⟩
    have := ho o (by omega)
    rw [e] at this
    exact this
  have hc := ObLe.cmp (p := p) hl ho
  refine ⟨hM.prIn, fun o ob h hd => ?_, fun o o' a b h1 h2 hd1 hd2 e => ?_, fun o ob h => ?_, fun o ob k c h1 h2 h3 => ?_⟩
  rotate_left 3
  · obtain ⟨ob0, g1, g2⟩ := get h1
    obtain ⟨a1, a2, a3⟩ := hM.own o ob0 k c g1 (by rw [g2.al.2]; exact h2) h3
    refine ⟨a1, a2, fun o' ob' h4 h5 => ?_⟩
    obtain ⟨ob1, g3, g4⟩ := get h4
    exact a3 o' ob1 g3 fun e => h5 (g4.fz.1.1 e)
  · obtain ⟨ob0, g1, g2⟩ := get h
    exact hM.blk o ob0 g1 fun e => hd (g2.fz.1.1 e)
  · obtain ⟨a0, g1, g2⟩ := get h1
    obtain ⟨b0, g3, g4⟩ := get h2
    exact hM.inj o o' a0 b0 g1 g3 (fun e => hd1 (g2.fz.1.1 e)) (fun e => hd2 (g4.fz.1.1 e)) e
  · obtain ⟨ob0, g1, g2⟩ := get h
    have h3 := hM.ob o ob0 g1
    have h4 : ObRel w Pr p os' o ob0 := ObRel.mono (.refl _ _) hc (fun _ => ⟨rfl, rfl, rfl, fun _ => .rfl⟩) (fun _ _ _ h => ⟨h, rfl⟩) h3
    cases g2 with
    | refl => exact h4
    | @tree sz cs ds hl2 hh =>
      obtain ⟨vs, et, k1, k2, k3, k4, k5, k6, k7⟩ := h4
      refine ⟨vs, et, k1, k2, by simp at k3 ⊢; omega, k4, fun i hi => ?_, fun i hi j hj => ?_, k7⟩
      · simp only [List.length_map] at hi
        have := k5 i (by simp; omega)
        simp only [List.getElem_map, V.cells, List.length_map] at this ⊢
        obtain ⟨e, _⟩ := (hh i (by omega)).tr.2
        rw [← e]; exact this
      · simp only [List.length_map] at hi
        simp only [List.getElem_map, V.cells, List.length_map] at hj
        obtain ⟨e, g⟩ := (hh i (by omega)).tr.2
        obtain ⟨v, q1, q2, q3⟩ := k6 i (by simp; omega) j (by simp [V.cells]; omega)
        refine ⟨v, q1, q2, ?_⟩
        simp only [List.getElem_map, V.cells, RelC] at q3 ⊢
        exact g j (by omega) _ _ _ q3
    | @var cs ds fz hl2 hh =>
      obtain ⟨vs, et, k1, k2, k3, k4⟩ := h4
      refine ⟨vs, et, k1, by omega, fun j hj => ?_, fun j => by rw [k4, hl2]⟩
      obtain ⟨v, q1, q2, q3⟩ := k3 j (by omega)
      exact ⟨v, q1, q2, (hh j (by omega)).rel q3⟩
    | @arr sz cs ds fz hl2 hh =>
      obtain ⟨vs, et, k1, k2, k3, k4, k5, k6, k7⟩ := h4
      refine ⟨vs, et, k1, k2, by omega, k4, fun i hi => ?_, fun i hi j hj => ?_, fun j => by rw [k7, hl2]⟩
      · obtain ⟨e, _⟩ := ((hh i (by omega)).rel (w := w) (Pr := Pr)).2
        rw [← e]; exact k5 i (by omega)
      · obtain ⟨e, g⟩ := ((hh i (by omega)).rel (w := w) (Pr := Pr)).2
        obtain ⟨v, q1, q2, q3⟩ := k6 i (by omega) j (by omega)
        exact ⟨v, q1, q2, g j (by omega) v q3⟩

/-- Streams, tape, and the blocks that are not spoken of are as they were. -/
structure Frm (B : Nat) (fb : Nat → Prop) (w w' : World) : Prop where
  os : w'.os = w.os
  tape : w'.tape = w.tape
  output : w'.output = w.output
  size : w.heap.size ≤ w'.heap.size
  block : ∀ k, k < B → ¬ fb k → w'.heap[k]? = w.heap[k]?

theorem Frm.refl (B : Nat) (fb : Nat → Prop) (w : World) : Frm B fb w w := ⟨rfl, rfl, rfl, Nat.le_refl _, fun _ _ _ => rfl⟩

theorem Frm.trans {B : Nat} {fb : Nat → Prop} {a b c : World} (h : Frm B fb a b) (k : Frm B fb b c) : Frm B fb a c :=
  ⟨k.os.trans h.os, k.tape.trans h.tape, k.output.trans h.output, Nat.le_trans h.size k.size, fun i hi hf => (k.block i hi hf).trans (h.block i hi hf)⟩

/-- What an activation began with. -/
structure Ghost where
  w0 : World
  Pr0 : Pro
  p0 : Place
  os0 : List Ob

def Ghost.fb (g : Ghost) (k : Nat) : Prop := Oc g.p0 g.os0 k

structure Inv (g : Ghost) (w : World) (Pr : Pro) (p : Place) (os : List Ob) : Prop where
  mem : Mem w Pr p os
  frm : Frm g.w0.heap.size g.fb g.w0 w
  stab : Stab g.w0 w g.Pr0 Pr
  prN : ∀ b i, Pr b i → g.Pr0 b i ∨ g.w0.heap.size ≤ b ∨ g.fb b
  cmp : Cmp g.p0 p g.os0 os
  own : ∀ k, Oc p os k → g.w0.heap.size ≤ k ∨ g.fb k

/-- One step of memory, seen from the activation. -/
structure Step (w w' : World) (Pr Pr' : Pro) (p p' : Place) (os os' : List Ob) (nF : Nat) : Prop where
  stab : Stab w w' Pr Pr'
  frm : Frm w.heap.size (Oc p os) w w'
  prN : ∀ b i, Pr' b i → Pr b i ∨ w.heap.size ≤ b ∨ Oc p os b
  len : os.length ≤ os'.length
  cmp : ∀ o ob', o < nF → os'[o]? = some ob' → ob' ≠ .dead → ∃ ob, os[o]? = some ob ∧ ob ≠ .dead ∧ p'.bl o = p.bl o ∧ p'.room o = p.room o ∧ ob'.sz = ob.sz
  arr : ∀ o ob' sz n', o < nF → os'[o]? = some ob' → ob'.al = some (sz, n') → ∃ ob n, os[o]? = some ob ∧ ob.al = some (sz, n) ∧ n ≤ n'
  own : ∀ k, Oc p' os' k → w.heap.size ≤ k ∨ Oc p os k

theorem Inv.step {g : Ghost} {w w' : World} {Pr Pr' : Pro} {p p' : Place} {os os' : List Ob} (h : Inv g w Pr p os) (s : Step w w' Pr Pr' p p' os os' g.os0.length)
    (hm : Mem w' Pr' p' os') : Inv g w' Pr' p' os' := by
  have hnF : g.os0.length ≤ os.length := h.cmp.len
  refine ⟨hm, ?_, ⟨fun b i hb => s.stab.pr _ _ (h.stab.pr _ _ hb), fun b i v hb hc => s.stab.cell _ _ _ (h.stab.pr _ _ hb) (h.stab.cell _ _ _ hb hc)⟩, ?_, ?_, ?_⟩
  · refine ⟨s.frm.os.trans h.frm.os, s.frm.tape.trans h.frm.tape, s.frm.output.trans h.frm.output, Nat.le_trans h.frm.size s.frm.size, fun k hk hf => ?_⟩
    rw [s.frm.block k (Nat.lt_of_lt_of_le hk h.frm.size) ?_, h.frm.block k hk hf]
    intro ho
    rcases h.own k ho with h1 | h1
    · omega
    · exact hf h1
  · intro b i hb
    rcases s.prN b i hb with h1 | h1 | h1
    · exact h.prN b i h1
    · exact .inr (.inl (Nat.le_trans h.frm.size h1))
    · exact .inr (h.own b h1)
  · refine ⟨Nat.le_trans h.cmp.len s.len, ?_, ?_⟩
    · intro o ob' ho h1 h2
      obtain ⟨ob, h3, h4, h5, h6, h7⟩ := s.cmp o ob' ho h1 h2
      obtain ⟨ob0, g3, g4, g5, g6, g7⟩ := h.cmp.live o ob ho h3 h4
      exact ⟨ob0, g3, g4, h5.trans g5, h6.trans g6, h7.trans g7⟩
    · intro o ob' sz n' ho h1 h1'
      obtain ⟨ob, n, h2, h2', h3⟩ := s.arr o ob' sz n' ho h1 h1'
      obtain ⟨ob0, n0, h4, h4', h5⟩ := h.cmp.arr o ob sz n ho h2 h2'
      exact ⟨ob0, n0, h4, h4', Nat.le_trans h5 h3⟩
  · intro k hk
    rcases s.own k hk with h3 | h3
    · exact .inl (Nat.le_trans h.frm.size h3)
    · exact h.own k h3

end Go.PL

/- PlStep -/
/- What a step does to objects: a new one, a change of one. -/
namespace Go.PL
open Go

/-- What an object's cells hold, held against memory as it was. -/
def PreOb (w : World) (Pr : Pro) (p : Place) (os : List Ob) (room : Nat) (vs : Array Value) : Ob → Prop
  | .var cs _ => vs.size = cs.length ∧ (∀ j (_ : j < cs.length), ∃ v, vs[j]? = some v ∧ v.oneCell' = true ∧ RelV w Pr p os cs[j] v)
  | .arr sz es _ => vs.size = room * sz ∧ es.length ≤ room ∧ room ≤ maxLen ∧ (∀ i (_ : i < es.length), es[i].cells.length = sz) ∧
      (∀ i (_ : i < es.length) j (_ : j < es[i].cells.length), ∃ v, vs[i * sz + j]? = some v ∧ v.oneCell' = true ∧ RelD w Pr es[i].cells[j] v)
  | .dead => False
  | .tree _ _ => False

theorem PreOb.nt {w : World} {Pr : Pro} {p : Place} {os : List Ob} {room : Nat} {vs : Array Value} {ob : Ob} (h : PreOb w Pr p os room vs ob) : ob.isTree = false ∧ ob ≠ .dead := by
  cases ob <;> first | exact False.elim h | exact ⟨rfl, by simp⟩

def Ob.fzn : Ob → Bool
  | .var _ fz => fz
  | .arr _ _ fz => fz
  | .dead => false
  | .tree _ _ => false

def Ob.cnt : Ob → Nat
  | .var cs _ => cs.length
  | .arr sz es _ => es.length * sz
  | .dead => 0
  | .tree sz es => match allD es with
    | some ds => ds.length * sz
    | none => 0

theorem ObRel.of_pre {w w' : World} {Pr Pr' : Pro} {p p' : Place} {os os' : List Ob} {o room : Nat} {vs : Array Value} {et : TypeId} {ob : Ob} (hs : Stab w w' Pr Pr') (hc : Cmp p p' os os')
    (h : PreOb w Pr p os room vs ob) (hb : w'.heap[p'.bl o]? = some (.cells vs et (0, 0))) (hr : p'.room o = room) (hp : ∀ j, Pr' (p'.bl o) j ↔ ob.fzn = true ∧ j < ob.cnt) : ObRel w' Pr' p' os' o ob := by
  cases ob with
  | var cs fz =>
    obtain ⟨h1, h2⟩ := h
    refine ⟨vs, et, hb, h1, fun j hj => ?_, hp⟩
    obtain ⟨v, k1, k2, k3⟩ := h2 j hj
    exact ⟨v, k1, k2, k3.cmp hs hc⟩
  | arr sz es fz =>
    obtain ⟨h1, h2, h3, h4, h5⟩ := h
    refine ⟨vs, et, hb, by rw [hr]; exact h1, by rw [hr]; exact h2, by rw [hr]; exact h3, h4, fun i hi j hj => ?_, hp⟩
    obtain ⟨v, k1, k2, k3⟩ := h5 i hi j hj
    exact ⟨v, k1, k2, k3.mono hs⟩
  | dead => exact h.elim
  | tree => exact h.elim

theorem cellAt_of_heap {w w' : World} {b : Nat} (h : w'.heap[b]? = w.heap[b]?) (i : Nat) : cellAt w' b i = cellAt w b i := by
  simp [cellAt, World.cell?, h]

def Place.at (p : Place) (o b room : Nat) : Place := ⟨fun k => if k = o then b else p.bl k, fun k => if k = o then room else p.room k, p.ow⟩

/-- What came of a step: memory again, and how it hangs with what was. -/
structure Moved (nF : Nat) (w w' : World) (Pr Pr' : Pro) (p p' : Place) (os os' : List Ob) : Prop where
  step : Step w w' Pr Pr' p p' os os' nF
  mem : Mem w' Pr' p' os'

theorem os_get_push {os : List Ob} {ob x : Ob} {o : Nat} (h : (os ++ [ob])[o]? = some x) : (o < os.length ∧ os[o]? = some x) ∨ (o = os.length ∧ x = ob) := by
  rcases Nat.lt_trichotomy o os.length with h1 | h1 | h1
  · rw [List.getElem?_append_left h1] at h; exact .inl ⟨h1, h⟩
  · subst h1; simp at h; exact .inr ⟨rfl, h.symm⟩
  · rw [List.getElem?_eq_none (by simp; omega)] at h; cases h

theorem Mem.prB {w : World} {Pr : Pro} {p : Place} {os : List Ob} (h : Mem w Pr p os) {i : Nat} : ¬ Pr w.heap.size i := fun hp => Nat.lt_irrefl _ (h.prIn _ _ hp)

theorem push {nF : Nat} {w w' : World} {Pr : Pro} {p : Place} {os : List Ob} (hM : Mem w Pr p os) (hnF : nF ≤ os.length) {ob : Ob} {vs : Array Value} {et room : Nat}
    (hw : w'.heap = w.heap.push (.cells vs et (0, 0))) (h1 : w'.os = w.os) (h2 : w'.tape = w.tape) (h3 : w'.output = w.output)
    (hob : PreOb w Pr p os room vs ob) (hf : ob.fzn = false) :
    Moved nF w w' Pr Pr p (p.at os.length w.heap.size room) os (os ++ [ob]) ∧ Stab w w' Pr Pr ∧ Cmp p (p.at os.length w.heap.size room) os (os ++ [ob]) := by
  have hold : ∀ k, k < w.heap.size → w'.heap[k]? = w.heap[k]? := fun k hk => by rw [hw, Array.getElem?_push, if_neg (by omega)]
  have hst : Stab w w' Pr Pr := ⟨fun _ _ h => h, fun b i v hp hc => by rw [cellAt_of_heap (hold b (hM.prIn b i hp))]; exact hc⟩
  have hcmp : Cmp p (p.at os.length w.heap.size room) os (os ++ [ob]) := by
    refine ⟨by simp, fun o ob' ho h hd => ?_, fun o ob' sz n' ho h h' => ?_⟩
    · rw [List.getElem?_append_left ho] at h
      have : o ≠ os.length := by omega
      exact ⟨ob', h, hd, by simp [Place.at, this], by simp [Place.at, this], rfl⟩
    · rw [List.getElem?_append_left ho] at h
      exact ⟨ob', n', h, h', Nat.le_refl _⟩
  have hsz : w'.heap.size = w.heap.size + 1 := by rw [hw]; simp
  have hpl : ∀ o, o < os.length → (p.at os.length w.heap.size room).bl o = p.bl o ∧ (p.at os.length w.heap.size room).room o = p.room o := fun o ho => by
    have : o ≠ os.length := by omega
    simp [Place.at, this]
  have hpn : (p.at os.length w.heap.size room).bl os.length = w.heap.size ∧ (p.at os.length w.heap.size room).room os.length = room := by simp [Place.at]
  have hdead : ob ≠ .dead := by rintro rfl; exact hob
  refine ⟨⟨⟨hst, ⟨h1, h2, h3, by omega, fun k hk _ => hold k hk⟩, fun b i hp => .inl hp, by simp, fun o ob' ho h hd => ?_, fun o ob' sz n' ho h h' => ?_, ?_⟩, ?_⟩, hst, hcmp⟩
  · obtain ⟨k1, k2, k3, k4, k5, k6⟩ := hcmp.live o ob' (by omega) h hd
    exact ⟨k1, k2, k3, k4, k5, k6⟩
  · exact hcmp.arr o ob' sz n' (by omega) h h'
  · rintro k ⟨o, ob', h, hd, h9⟩
    rcases os_get_push h with ⟨k1, k2⟩ | ⟨k1, k2⟩
    · exact .inr ⟨o, ob', k2, hd, by rw [(hpl o k1).1] at h9; exact h9⟩
    · subst k1; subst k2
      rw [hpn.1, hob.nt.1] at h9
      rcases h9 with h9 | ⟨h9, _⟩
      · exact .inl (by omega)
      · cases h9
  · refine ⟨fun b i hp => by have := hM.prIn b i hp; omega, fun o ob' h hd => ?_, fun o o' a b ha hb hda hdb e => ?_, fun o ob' h => ?_, fun o ob' k c h ht hw => ?_⟩
    rotate_left 3
    · rcases os_get_push h with ⟨k1, k2⟩ | ⟨k1, k2⟩
      · obtain ⟨a1, a2, a3⟩ := hM.own o ob' k c k2 ht hw
        refine ⟨a1.of (hold k a1.lt), a2, fun o' ob2 h4 h5 => ?_⟩
        rcases os_get_push h4 with ⟨k3, k4⟩ | ⟨k3, k4⟩
        · rw [(hpl o' k3).1]; exact a3 o' ob2 k4 h5
        · subst k3; rw [hpn.1]; have := a1.lt; omega
      · subst k2; rw [hob.nt.1] at ht; cases ht
    · rcases os_get_push h with ⟨k1, k2⟩ | ⟨k1, k2⟩
      · rw [(hpl o k1).1]; have := hM.blk o ob' k2 hd; omega
      · subst k1; rw [hpn.1]; omega
    · rcases os_get_push ha with ⟨k1, k2⟩ | ⟨k1, k2⟩ <;> rcases os_get_push hb with ⟨k3, k4⟩ | ⟨k3, k4⟩
      · rw [(hpl o k1).1, (hpl o' k3).1] at e; exact hM.inj o o' a b k2 k4 hda hdb e
      · subst k3; rw [(hpl o k1).1, hpn.1] at e; have := hM.blk o a k2 hda; omega
      · subst k1; rw [hpn.1, (hpl o' k3).1] at e; have := hM.blk o' b k4 hdb; omega
      · omega
    · rcases os_get_push h with ⟨k1, k2⟩ | ⟨k1, k2⟩
      · refine ObRel.mono hst hcmp (fun hd => ⟨(hpl o k1).1, (hpl o k1).2, hold _ (hM.blk o ob' k2 hd), fun j => Iff.rfl⟩) (fun ht k c hk => ⟨hk, hold _ (hM.own o ob' k c k2 ht hk).1.lt⟩) (hM.ob o ob' k2)
      · subst k1; subst k2
        refine ObRel.of_pre (et := et) hst hcmp hob (by rw [hpn.1, hw]; simp) hpn.2 fun j => ?_
        rw [hpn.1, hf]
        simp only [Bool.false_eq_true, false_and, iff_false]
        exact hM.prB

/-- What is read as data of one object more. -/
def Pro.more (Pr : Pro) (f : Bool) (b n : Nat) : Pro := fun b' i => Pr b' i ∨ (f = true ∧ b' = b ∧ i < n)

theorem os_get_set {os : List Ob} {ob x : Ob} {o k : Nat} (h : (os.set k ob)[o]? = some x) : (o ≠ k ∧ os[o]? = some x) ∨ (o = k ∧ k < os.length ∧ x = ob) := by
  by_cases e : o = k
  · subst e
    by_cases hl : o < os.length
    · rw [List.getElem?_set_self hl] at h; exact .inr ⟨rfl, hl, (Option.some.inj h).symm⟩
    · rw [List.getElem?_eq_none (by simp; omega)] at h; cases h
  · rw [List.getElem?_set_ne (Ne.symm e)] at h; exact .inl ⟨e, h⟩

/-- An object's cells have turned; what was read as data of it has not. -/
theorem turn {nF : Nat} {w w' : World} {Pr : Pro} {p : Place} {os : List Ob} (hM : Mem w Pr p os) (hnF : nF ≤ os.length) {o : Nat} {ob ob' : Ob} {vs vs' : Array Value} {et : TypeId}
    (ho : os[o]? = some ob) (hd : ob ≠ .dead) (hv : w.heap[p.bl o]? = some (.cells vs et (0, 0)))
    (hw : w'.heap[p.bl o]? = some (.cells vs' et (0, 0))) (hwo : ∀ k, k ≠ p.bl o → w'.heap[k]? = w.heap[k]?) (hsz : w'.heap.size = w.heap.size)
    (h1 : w'.os = w.os) (h2 : w'.tape = w.tape) (h3 : w'.output = w.output)
    (hob : PreOb w Pr p os (p.room o) vs' ob') (hs : ob'.sz = ob.sz) (hf : ob'.fzn = ob.fzn) (hcnt : ob.cnt ≤ ob'.cnt)
    (hkind : ∀ sz n', ob'.al = some (sz, n') → ∃ n, ob.al = some (sz, n) ∧ n ≤ n')
    (hkeep : ob.fzn = true → ∀ j, j < ob.cnt → vs'[j]? = vs[j]?) :
    Moved nF w w' Pr (Pr.more ob.fzn (p.bl o) ob'.cnt) p p os (os.set o ob') ∧ Stab w w' Pr (Pr.more ob.fzn (p.bl o) ob'.cnt) ∧ Cmp p p os (os.set o ob') := by
  have hol : o < os.length := by
    rcases Nat.lt_or_ge o os.length with h | h
    · exact h
    · rw [List.getElem?_eq_none h] at ho; cases ho
  have hobr := hM.ob o ob ho
  have hprO : ∀ j, Pr (p.bl o) j ↔ ob.fzn = true ∧ j < ob.cnt := by
    cases ob with
    | var cs fz => obtain ⟨_, _, _, _, _, g⟩ := hobr; exact g
    | arr sz es fz => obtain ⟨_, _, _, _, _, _, _, _, g⟩ := hobr; exact g
    | tree sz es => obtain ⟨_, _, _, _, _, _, _, _, g⟩ := hobr; exact fun j => ⟨fun h => absurd h (g j), fun h => by simp [Ob.fzn] at h⟩
    | dead => exact absurd rfl hd
  have hd' : ob' ≠ .dead := by rintro rfl; exact hob
  have hst : Stab w w' Pr (Pr.more ob.fzn (p.bl o) ob'.cnt) := by
    refine ⟨fun _ _ h => .inl h, fun b i v hp hc => ?_⟩
    by_cases hb : b = p.bl o
    · subst hb
      obtain ⟨g1, g2⟩ := (hprO i).1 hp
      have := hkeep g1 i g2
      simp only [cellAt, World.cell?, hv, hw] at hc ⊢
      simp at hc ⊢
      rw [this]; exact hc
    · rw [cellAt_of_heap (hwo b hb)]; exact hc
  have hcmp : Cmp p p os (os.set o ob') := by
    refine ⟨by simp, fun k x hk h hdx => ?_, fun k x sz n' hk h h' => ?_⟩
    · rcases os_get_set h with ⟨_, g⟩ | ⟨rfl, _, rfl⟩
      · exact ⟨x, g, hdx, rfl, rfl, rfl⟩
      · exact ⟨ob, ho, hd, rfl, rfl, hs⟩
    · rcases os_get_set h with ⟨_, g⟩ | ⟨rfl, _, e⟩
      · exact ⟨x, n', g, h', Nat.le_refl _⟩
      · subst e
        obtain ⟨n, g1, g2⟩ := hkind sz n' h'
        exact ⟨ob, n, ho, g1, g2⟩
  have hnt : ob'.isTree = false := hob.nt.1
  refine ⟨⟨⟨hst, ⟨h1, h2, h3, by omega, fun k hk hf => hwo k fun e => hf ⟨o, ob, ho, hd, .inl e.symm⟩⟩, fun b i hp => ?_, by simp, fun k x hk h hdx => ?_, fun k x sz n' hk h h' => ?_, ?_⟩, ?_⟩, hst, hcmp⟩
  · rcases hp with hp | ⟨_, rfl, _⟩
    · exact .inl hp
    · exact .inr (.inr ⟨o, ob, ho, hd, .inl rfl⟩)
  · exact hcmp.live k x (by omega) h hdx
  · exact hcmp.arr k x sz n' (by omega) h h'
  · rintro k ⟨q, x, h, hdx, h9⟩
    rcases os_get_set h with ⟨_, g⟩ | ⟨rfl, _, rfl⟩
    · exact .inr ⟨q, x, g, hdx, h9⟩
    · rw [hnt] at h9
      rcases h9 with h9 | ⟨h9, _⟩
      · exact .inr ⟨q, ob, ho, hd, .inl h9⟩
      · cases h9
  · refine ⟨fun b i hp => ?_, fun k x h hdx => ?_, fun k k' a b ha hb hda hdb e => ?_, fun k x h => ?_, fun q x k c h ht hw => ?_⟩
    rotate_left 4
    · rcases os_get_set h with ⟨_, g⟩ | ⟨rfl, _, rfl⟩
      · obtain ⟨a1, a2, a3⟩ := hM.own q x k c g ht hw
        refine ⟨a1.of (hwo k fun e => a3 o ob ho hd e.symm), fun i hi => ?_, fun o' ob2 h4 h5 => ?_⟩
        · rcases hi with hi | ⟨_, rfl, _⟩
          · exact a2 i hi
          · exact a3 o ob ho hd rfl
        · rcases os_get_set h4 with ⟨_, g2⟩ | ⟨rfl, _, rfl⟩
          · exact a3 o' ob2 g2 h5
          · exact a3 _ ob ho hd
      · rw [hnt] at ht; cases ht
    · rcases hp with hp | ⟨_, rfl, _⟩
      · rw [hsz]; exact hM.prIn b i hp
      · rw [hsz]; exact hM.blk o ob ho hd
    · rw [hsz]
      rcases os_get_set h with ⟨_, g⟩ | ⟨rfl, _, rfl⟩
      · exact hM.blk k x g hdx
      · exact hM.blk _ ob ho hd
    · rcases os_get_set ha with ⟨n1, g1⟩ | ⟨rfl, _, rfl⟩ <;> rcases os_get_set hb with ⟨n2, g2⟩ | ⟨rfl, _, rfl⟩
      · exact hM.inj k k' a b g1 g2 hda hdb e
      · exact hM.inj k k' a ob g1 ho hda hd e
      · exact hM.inj _ k' ob b ho g2 hd hdb e
      · rfl
    · rcases os_get_set h with ⟨n1, g⟩ | ⟨rfl, _, rfl⟩
      · refine ObRel.mono hst hcmp (fun hdx => ?_) (fun ht b c hb => ⟨hb, hwo b fun e => (hM.own k x b c g ht hb).2.2 o ob ho hd e.symm⟩) (hM.ob k x g)
        have hne : p.bl k ≠ p.bl o := fun e => n1 (hM.inj k o x ob g ho hdx hd e)
        refine ⟨rfl, rfl, hwo _ hne, fun j => ?_⟩
        constructor
        · rintro (h | ⟨_, e, _⟩)
          · exact h
          · exact absurd e hne
        · exact .inl
      · refine ObRel.of_pre (et := et) hst hcmp hob hw rfl fun j => ?_
        rw [hf]
        constructor
        · rintro (h | ⟨h1, _, h2⟩)
          · obtain ⟨g1, g2⟩ := (hprO j).1 h
            exact ⟨g1, by omega⟩
          · exact ⟨h1, h2⟩
        · rintro ⟨h1, h2⟩; exact .inr ⟨h1, rfl, h2⟩

/-- A tree's cells have turned. -/
theorem turnT {nF : Nat} {w w' : World} {Pr : Pro} {p : Place} {os : List Ob} (hM : Mem w Pr p os) (hnF : nF ≤ os.length) {o sz : Nat} {es es' : List V} {vs vs' : Array Value} {et : TypeId}
    (ho : os[o]? = some (.tree sz es)) (_hv : w.heap[p.bl o]? = some (.cells vs et (0, 0)))
    (hw : w'.heap[p.bl o]? = some (.cells vs' et (0, 0))) (hwo : ∀ k, k ≠ p.bl o → w'.heap[k]? = w.heap[k]?) (hsz : w'.heap.size = w.heap.size)
    (h1 : w'.os = w.os) (h2 : w'.tape = w.tape) (h3 : w'.output = w.output)
    (hlen : es'.length = es.length) (hvs : vs'.size = p.room o * sz) (hc1 : ∀ i (_ : i < es'.length), es'[i].cells.length = sz)
    (hc2 : ∀ i (_ : i < es'.length) j (_ : j < es'[i].cells.length), ∃ v, vs'[i * sz + j]? = some v ∧ v.oneCell' = true ∧ RelC w Pr p os (fun k => p.ow k = some (o, i * sz + j)) es'[i].cells[j] v) :
    Moved nF w w' Pr Pr p p os (os.set o (.tree sz es')) ∧ Stab w w' Pr Pr ∧ Cmp p p os (os.set o (.tree sz es')) := by
  have hol : o < os.length := by
    rcases Nat.lt_or_ge o os.length with h | h
    · exact h
    · rw [List.getElem?_eq_none h] at ho; cases ho
  obtain ⟨vs0, et0, g1, g2, g3, g4, g5, g6, g7⟩ := hM.ob o _ ho
  have hst : Stab w w' Pr Pr := by
    refine ⟨fun _ _ h => h, fun b i v hp hc => ?_⟩
    have hb : b ≠ p.bl o := by rintro rfl; exact g7 i hp
    rw [cellAt_of_heap (hwo b hb)]; exact hc
  have hcmp : Cmp p p os (os.set o (.tree sz es')) := by
    refine ⟨by simp, fun k x hk h hdx => ?_, fun k x sz n' hk h h' => ?_⟩
    · rcases os_get_set h with ⟨_, g⟩ | ⟨rfl, _, rfl⟩
      · exact ⟨x, g, hdx, rfl, rfl, rfl⟩
      · exact ⟨_, ho, by simp, rfl, rfl, rfl⟩
    · rcases os_get_set h with ⟨_, g⟩ | ⟨rfl, _, rfl⟩
      · exact ⟨x, n', g, h', Nat.le_refl _⟩
      · simp only [Ob.al, Option.some.injEq, Prod.mk.injEq] at h'
        exact ⟨_, es.length, ho, by simp [Ob.al, h'.1], by omega⟩
  refine ⟨⟨⟨hst, ⟨h1, h2, h3, by omega, fun k hk hf => hwo k fun e => hf ⟨o, _, ho, by simp, .inl e.symm⟩⟩, fun b i hp => .inl hp, by simp, fun k x hk h hdx => hcmp.live k x (by omega) h hdx, fun k x sz n' hk h h' => hcmp.arr k x sz n' (by omega) h h', ?_⟩, ?_⟩, hst, hcmp⟩
  · rintro k ⟨q, x, h, hdx, h9⟩
    rcases os_get_set h with ⟨_, g⟩ | ⟨rfl, _, rfl⟩
    · exact .inr ⟨q, x, g, hdx, h9⟩
    · exact .inr ⟨q, _, ho, by simp, h9.imp_right fun h => ⟨rfl, h.2⟩⟩
  · refine ⟨fun b i hp => by rw [hsz]; exact hM.prIn b i hp, fun k x h hdx => ?_, fun k k' a b ha hb hda hdb e => ?_, fun k x h => ?_, fun q x k c h ht hk => ?_⟩
    · rw [hsz]
      rcases os_get_set h with ⟨_, g⟩ | ⟨rfl, _, rfl⟩
      · exact hM.blk k x g hdx
      · exact hM.blk _ _ ho (by simp)
    · rcases os_get_set ha with ⟨n1, q1⟩ | ⟨rfl, _, rfl⟩ <;> rcases os_get_set hb with ⟨n2, q2⟩ | ⟨rfl, _, rfl⟩
      · exact hM.inj k k' a b q1 q2 hda hdb e
      · exact hM.inj k k' a _ q1 ho hda (by simp) e
      · exact hM.inj _ k' _ b ho q2 (by simp) hdb e
      · rfl
    · rcases os_get_set h with ⟨n1, g⟩ | ⟨rfl, _, rfl⟩
      · exact ObRel.mono hst hcmp (fun hdx => ⟨rfl, rfl, hwo _ fun e => n1 (hM.inj k o x _ g ho hdx (by simp) e), fun _ => .rfl⟩)
          (fun ht b c hb => ⟨hb, hwo b fun e => (hM.own k x b c g ht hb).2.2 o _ ho (by simp) e.symm⟩) (hM.ob k x g)
      · refine ⟨vs', et, hw, hvs, by omega, g4, hc1, fun i hi j hj => ?_, g7⟩
        obtain ⟨v, k1, k2, k3⟩ := hc2 i hi j hj
        exact ⟨v, k1, k2, k3.cmp hst hcmp fun b hb => ⟨hb, hwo b fun e => (hM.own k _ b _ ho rfl hb).2.2 k _ ho (by simp) e.symm⟩⟩
    · have key : ∃ x, os[q]? = some x ∧ x.isTree = true := by
        rcases os_get_set h with ⟨_, g⟩ | ⟨rfl, _, rfl⟩
        · exact ⟨x, g, ht⟩
        · exact ⟨_, ho, rfl⟩
      obtain ⟨x0, y1, y2⟩ := key
      obtain ⟨a1, a2, a3⟩ := hM.own q x0 k c y1 y2 hk
      refine ⟨a1.of (hwo k fun e => a3 o _ ho (by simp) e.symm), a2, fun o' ob2 h4 h5 => ?_⟩
      rcases os_get_set h4 with ⟨_, q2⟩ | ⟨rfl, _, rfl⟩
      · exact a3 o' ob2 q2 h5
      · exact a3 _ _ ho (by simp)

end Go.PL

/- PlFreeze -/
/- Cells that are no longer written; what is read as data; an array that has moved. -/
namespace Go.PL
open Go

theorem allD_rel : ∀ {cs : List V} {ds : List D}, allD cs = some ds → cs = ds.map .d
  | [], ds, h => by simp [allD] at h; subst h; rfl
  | v :: r, ds, h => by
    simp only [allD] at h
    split at h
    · rename_i x xs h1 h2
      simp only [Option.some.injEq] at h
      subst h
      have := allD_rel h2
      subst this
      cases v <;> simp [V.isD] at h1
      subst h1
      simp
    · cases h
theorem allD_map : ∀ (ds : List D), allD (ds.map .d) = some ds
  | [] => rfl
  | x :: r => by simp [allD, V.isD, allD_map r]

theorem ObRel.pre {w : World} {Pr : Pro} {p : Place} {os : List Ob} {o : Nat} {ob : Ob} (hd : ob ≠ .dead) (ht : ob.isTree = false) (h : ObRel w Pr p os o ob) :
    ∃ vs et, w.heap[p.bl o]? = some (.cells vs et (0, 0)) ∧ PreOb w Pr p os (p.room o) vs ob ∧ ∀ j, Pr (p.bl o) j ↔ ob.fzn = true ∧ j < ob.cnt := by
  cases ob with
  | var cs fz => obtain ⟨vs, et, h1, h2, h3, h4⟩ := h; exact ⟨vs, et, h1, ⟨h2, h3⟩, h4⟩
  | arr sz es fz => obtain ⟨vs, et, h1, h2, h3, h4, h5, h6, h7⟩ := h; exact ⟨vs, et, h1, ⟨h2, h3, h4, h5, h6⟩, h7⟩
  | dead => exact absurd rfl hd
  | tree => cases ht

theorem PreOb.fz {w : World} {Pr : Pro} {p : Place} {os : List Ob} {room : Nat} {vs : Array Value} {ob : Ob} (h : PreOb w Pr p os room vs ob) : PreOb w Pr p os room vs ob.fz := by
  cases ob with
  | tree => exact False.elim h
  | _ => exact h

theorem Ob.fz_facts (ob : Ob) : ob.fz.sz = ob.sz ∧ ob.fz.cnt = ob.cnt ∧ (ob.fz = .dead ↔ ob = .dead) ∧ ob.fz.al = ob.al := by
  cases ob with
  | tree sz es =>
    simp only [Ob.fz, Ob.cnt]
    cases h : allD es with
    | none => simp [Ob.sz, Ob.al, Ob.cnt, h]
    | some ds => have := allD_rel h; subst this; simp [Ob.sz, Ob.al, Ob.cnt]
  | _ => simp [Ob.fz, Ob.sz, Ob.cnt, Ob.al]

theorem os_get_modify {os : List Ob} {x : Ob} {o k : Nat} {f : Ob → Ob} (h : (os.modify k f)[o]? = some x) : (o ≠ k ∧ os[o]? = some x) ∨ (o = k ∧ ∃ ob, os[o]? = some ob ∧ x = f ob) := by
  rw [List.getElem?_modify] at h
  by_cases e : k = o
  · subst e
    cases h' : os[k]? with
    | none => simp [h'] at h
    | some ob => simp [h'] at h; exact .inr ⟨rfl, ob, rfl, h.symm⟩
  · simp [e] at h
    exact .inl ⟨Ne.symm e, h⟩

theorem Moved.refl {nF : Nat} {w : World} {Pr : Pro} {p : Place} {os : List Ob} (hM : Mem w Pr p os) : Moved nF w w Pr Pr p p os os :=
  ⟨⟨.refl _ _, Frm.refl _ _ _, fun b i h => .inl h, Nat.le_refl _, fun k x hk h hd => ⟨x, h, hd, rfl, rfl, rfl⟩, fun k x sz n hk h h' => ⟨x, n, h, h', Nat.le_refl _⟩, fun k h => .inr h⟩, hM⟩

/-- Objects that a list of numbers names are read as data. -/
def Frz (Pr : Pro) (p : Place) (os : List Ob) (l : List Nat) : Prop := ∀ o ∈ l, ∀ ob, os[o]? = some ob → ob ≠ .dead →
  (∀ j, j < ob.cnt → Pr (p.bl o) j) ∧ (∀ sz es, ob = .tree sz es → (allD es).isSome = true → ∀ k c i, p.ow k = some (o, c) → Pr k i)

/-- One object's cells are from now on read as data. -/
theorem freeze1 {nF : Nat} {w : World} {Pr : Pro} {p : Place} {os : List Ob} (hM : Mem w Pr p os) (hnF : nF ≤ os.length) (o : Nat) :
    ∃ Pr', Moved nF w w Pr Pr' p p os (os.modify o Ob.fz) ∧ Stab w w Pr Pr' ∧ Cmp p p os (os.modify o Ob.fz) ∧ Frz Pr' p os [o] := by
  have same : ∀ (ho : ∀ ob, os[o]? = some ob → ob.fz = ob), (∀ ob, os[o]? = some ob → ob ≠ .dead → ob.cnt = 0 ∧ ∀ sz es, ob = .tree sz es → (allD es).isSome = false) →
      ∃ Pr', Moved nF w w Pr Pr' p p os (os.modify o Ob.fz) ∧ Stab w w Pr Pr' ∧ Cmp p p os (os.modify o Ob.fz) ∧ Frz Pr' p os [o] := by
    intro ho h0
    have e : os.modify o Ob.fz = os := by
      apply List.ext_getElem?; intro k; rw [List.getElem?_modify]; split
      · rename_i h; subst h
        cases hx : os[o]? with
        | none => rfl
        | some ob => simp [ho ob hx]
      · simp
    rw [e]
    refine ⟨Pr, .refl hM, .refl _ _, .refl _ _, ?_⟩
    intro x hx ob h1 h2
    simp only [List.mem_singleton] at hx
    subst hx
    obtain ⟨g1, g2⟩ := h0 ob h1 h2
    exact ⟨fun j hj => by omega, fun sz es e h3 => by rw [g2 sz es e] at h3; cases h3⟩
  cases ho : os[o]? with
  | none => exact same (fun ob h => by rw [ho] at h; cases h) (fun ob h => by rw [ho] at h; cases h)
  | some ob =>
    by_cases hd : ob = .dead
    · subst hd
      exact same (fun ob h => by rw [ho] at h; cases h; rfl) (fun ob h h2 => by rw [ho] at h; cases h; exact absurd rfl h2)
    obtain ⟨f1, f2, f3, f4⟩ := Ob.fz_facts ob
    have hcmp : Cmp p p os (os.modify o Ob.fz) := by
      refine ⟨by simp, fun k x hk h hdx => ?_, fun k x sz n' hk h h' => ?_⟩
      · rcases os_get_modify h with ⟨_, g⟩ | ⟨rfl, ob', g, rfl⟩
        · exact ⟨x, g, hdx, rfl, rfl, rfl⟩
        · rw [ho] at g; cases g; exact ⟨ob, ho, hd, rfl, rfl, f1⟩
      · rcases os_get_modify h with ⟨_, g⟩ | ⟨rfl, ob', g, rfl⟩
        · exact ⟨x, n', g, h', Nat.le_refl _⟩
        · rw [ho] at g; cases g
          exact ⟨ob, n', ho, by rw [← f4]; exact h', Nat.le_refl _⟩
    cases ht : ob.isTree with
    | true =>
      cases ob with
      | tree sz es =>
        cases hds : allD es with
        | none => exact same (fun ob h => by rw [ho] at h; cases h; simp [Ob.fz, hds]) (fun ob h h2 => by rw [ho] at h; cases h; exact ⟨by simp [Ob.cnt, hds], fun sz es e => by cases e; simp [hds]⟩)
        | some ds =>
          have hes := allD_rel hds
          subst hes
          have hfz : Ob.fz (.tree sz (ds.map .d)) = .arr sz ds true := by simp [Ob.fz, hds]
          let Pr' : Pro := fun b i => Pr b i ∨ (b = p.bl o ∧ i < ds.length * sz) ∨ ∃ c, p.ow b = some (o, c)
          have hst : Stab w w Pr Pr' := ⟨fun _ _ h => .inl h, fun _ _ _ _ h => h⟩
          obtain ⟨vs, et, g1, g2, g3, g4, g5, g6, g7⟩ := hM.ob o _ ho
          have hown := fun k c h => hM.own o _ k c ho rfl h
          refine ⟨Pr', ⟨⟨hst, Frm.refl _ _ _, fun b i hp => ?_, by simp, fun k x hk h hdx => hcmp.live k x (by omega) h hdx, fun k x sz n' hk h h' => hcmp.arr k x sz n' (by omega) h h', ?_⟩, ?_⟩, hst, hcmp, ?_⟩
          · rcases hp with hp | ⟨rfl, _⟩ | ⟨c, hc⟩
            · exact .inl hp
            · exact .inr (.inr ⟨o, _, ho, by simp, .inl rfl⟩)
            · exact .inr (.inr ⟨o, _, ho, by simp, .inr ⟨rfl, c, hc⟩⟩)
          · rintro k ⟨q, x, h, hdx, h9⟩
            rcases os_get_modify h with ⟨_, g⟩ | ⟨rfl, ob', g, rfl⟩
            · exact .inr ⟨q, x, g, hdx, h9⟩
            · rw [ho] at g; cases g
              rw [hfz] at h9
              rcases h9 with h9 | ⟨h9, _⟩
              · exact .inr ⟨q, _, ho, by simp, .inl h9⟩
              · cases h9
          · refine ⟨fun b i hp => ?_, fun k x h hdx => ?_, fun k k' a b ha hb hda hdb e => ?_, fun k x h => ?_, fun q x k c h hx hw => ?_⟩
            · rcases hp with hp | ⟨rfl, _⟩ | ⟨c, hc⟩
              · exact hM.prIn b i hp
              · exact hM.blk o _ ho (by simp)
              · exact (hown b c hc).1.lt
            · rcases os_get_modify h with ⟨_, g⟩ | ⟨rfl, ob', g, rfl⟩
              · exact hM.blk k x g hdx
              · exact hM.blk _ ob' g (fun e => hdx (by rw [e]; rfl))
            · rcases os_get_modify ha with ⟨n1, m1⟩ | ⟨rfl, a', m1, rfl⟩ <;> rcases os_get_modify hb with ⟨n2, m2⟩ | ⟨rfl, b', m2, rfl⟩
              · exact hM.inj k k' a b m1 m2 hda hdb e
              · exact hM.inj k _ a b' m1 m2 hda (fun e => hdb (by rw [e]; rfl)) e
              · exact hM.inj _ k' a' b m1 m2 (fun e => hda (by rw [e]; rfl)) hdb e
              · rfl
            · rcases os_get_modify h with ⟨n1, g⟩ | ⟨rfl, ob', g, rfl⟩
              · refine ObRel.mono hst hcmp (fun hdx => ⟨rfl, rfl, rfl, fun j => ⟨?_, .inl⟩⟩) (fun _ _ _ h => ⟨h, rfl⟩) (hM.ob k x g)
                rintro (h | ⟨e, _⟩ | ⟨c, hc⟩)
                · exact h
                · exact absurd (hM.inj k o x _ g ho hdx (by simp) e) n1
                · exact absurd rfl ((hown _ c hc).2.2 k x g hdx)
              · rw [ho] at g; cases g
                rw [hfz]
                simp only [List.length_map] at g3
                refine ⟨vs, et, g1, g2, g3, g4, fun i hi => ?_, fun i hi j hj => ?_, fun j => ⟨?_, fun h => .inr (.inl ⟨rfl, h.2⟩)⟩⟩
                · have := g5 i (by simp; exact hi)
                  simpa [V.cells] using this
                · obtain ⟨v, k1, k2, k3⟩ := g6 i (by simp; exact hi) j (by simp [V.cells]; exact hj)
                  refine ⟨v, k1, k2, ?_⟩
                  simp only [List.getElem_map, V.cells, RelC] at k3
                  exact Tr.rel k3 fun k i hk => .inr (.inr ⟨_, hk⟩)
                · rintro (h | ⟨_, h⟩ | ⟨c, hc⟩)
                  · exact absurd h (g7 j)
                  · exact ⟨rfl, h⟩
                  · exact absurd rfl ((hown _ c hc).2.2 _ _ ho (by simp))
            · rcases os_get_modify h with ⟨n1, g⟩ | ⟨rfl, ob', g, rfl⟩
              · obtain ⟨a1, a2, a3⟩ := hM.own q x k c g hx hw
                refine ⟨a1, fun i => ?_, fun o' ob2 h4 h5 => ?_⟩
                · rintro (h | ⟨e, _⟩ | ⟨c', hc⟩)
                  · exact a2 i h
                  · exact a3 o _ ho (by simp) e.symm
                  · rw [hw] at hc; cases hc; exact n1 rfl
                · rcases os_get_modify h4 with ⟨_, g2⟩ | ⟨rfl, ob3, g2, rfl⟩
                  · exact a3 o' ob2 g2 h5
                  · exact a3 _ ob3 g2 (fun e => h5 (by rw [e]; rfl))
              · rw [ho] at g; cases g
                rw [hfz] at hx; cases hx
          · intro x hx ob h1 h2
            simp only [List.mem_singleton] at hx
            subst hx
            rw [ho] at h1; cases h1
            exact ⟨fun j hj => .inr (.inl ⟨rfl, by simpa [Ob.cnt, hds] using hj⟩), fun sz es e h3 k c i hk => .inr (.inr ⟨c, hk⟩)⟩
      | _ => cases ht
    | false =>
      obtain ⟨vs, et, hv, hpre, hprO⟩ := (hM.ob o ob ho).pre hd ht
      have hst : Stab w w Pr (Pr.more true (p.bl o) ob.cnt) := ⟨fun _ _ h => .inl h, fun _ _ _ _ h => h⟩
      have htf : ob.fz.isTree = false := by cases ob <;> first | rfl | cases ht
      refine ⟨Pr.more true (p.bl o) ob.cnt, ⟨⟨hst, Frm.refl _ _ _, fun b i hp => ?_, by simp, fun k x hk h hdx => hcmp.live k x (by omega) h hdx, fun k x sz n' hk h h' => hcmp.arr k x sz n' (by omega) h h', ?_⟩, ?_⟩, hst, hcmp, ?_⟩
      · rcases hp with hp | ⟨_, rfl, _⟩
        · exact .inl hp
        · exact .inr (.inr ⟨o, ob, ho, hd, .inl rfl⟩)
      · rintro k ⟨q, x, h, hdx, h9⟩
        rcases os_get_modify h with ⟨_, g⟩ | ⟨rfl, ob', g, rfl⟩
        · exact .inr ⟨q, x, g, hdx, h9⟩
        · rw [ho] at g; cases g
          rw [htf] at h9
          rcases h9 with h9 | ⟨h9, _⟩
          · exact .inr ⟨q, _, ho, hd, .inl h9⟩
          · cases h9
      · refine ⟨fun b i hp => ?_, fun k x h hdx => ?_, fun k k' a b ha hb hda hdb e => ?_, fun k x h => ?_, fun q x k c h hx hw => ?_⟩
        · rcases hp with hp | ⟨_, rfl, _⟩
          · exact hM.prIn b i hp
          · exact hM.blk o ob ho hd
        · rcases os_get_modify h with ⟨_, g⟩ | ⟨rfl, ob', g, rfl⟩
          · exact hM.blk k x g hdx
          · exact hM.blk _ ob' g (fun e => hdx (by rw [e]; rfl))
        · rcases os_get_modify ha with ⟨n1, g1⟩ | ⟨rfl, a', g1, rfl⟩ <;> rcases os_get_modify hb with ⟨n2, g2⟩ | ⟨rfl, b', g2, rfl⟩
          · exact hM.inj k k' a b g1 g2 hda hdb e
          · exact hM.inj k _ a b' g1 g2 hda (fun e => hdb (by rw [e]; rfl)) e
          · exact hM.inj _ k' a' b g1 g2 (fun e => hda (by rw [e]; rfl)) hdb e
          · rfl
        · rcases os_get_modify h with ⟨n1, g⟩ | ⟨rfl, ob', g, rfl⟩
          · refine ObRel.mono hst hcmp (fun hdx => ?_) (fun _ _ _ h => ⟨h, rfl⟩) (hM.ob k x g)
            have hne : p.bl k ≠ p.bl o := fun e => n1 (hM.inj k o x ob g ho hdx hd e)
            refine ⟨rfl, rfl, rfl, fun j => ⟨?_, .inl⟩⟩
            rintro (h | ⟨_, e, _⟩)
            · exact h
            · exact absurd e hne
          · rw [ho] at g; cases g
            refine ObRel.of_pre (et := et) hst hcmp hpre.fz hv rfl fun j => ?_
            rw [f2]
            have e : ob.fz.fzn = true := by cases ob <;> first | rfl | exact absurd rfl hd | cases ht
            rw [e]
            constructor
            · rintro (h | ⟨_, _, h2⟩)
              · exact ⟨rfl, ((hprO j).1 h).2⟩
              · exact ⟨rfl, h2⟩
            · rintro ⟨_, h2⟩; exact .inr ⟨rfl, rfl, h2⟩
        · rcases os_get_modify h with ⟨n1, g⟩ | ⟨rfl, ob', g, rfl⟩
          · obtain ⟨a1, a2, a3⟩ := hM.own q x k c g hx hw
            refine ⟨a1, fun i => ?_, fun o' ob2 h4 h5 => ?_⟩
            · rintro (h | ⟨_, e, _⟩)
              · exact a2 i h
              · exact a3 o _ ho hd e.symm
            · rcases os_get_modify h4 with ⟨_, g2⟩ | ⟨rfl, ob3, g2, rfl⟩
              · exact a3 o' ob2 g2 h5
              · exact a3 _ ob3 g2 (fun e => h5 (by rw [e]; rfl))
          · rw [ho] at g; cases g
            rw [htf] at hx; cases hx
      · intro x hx ob2 h1 h2
        simp only [List.mem_singleton] at hx
        subst hx
        rw [ho] at h1; cases h1
        exact ⟨fun j hj => .inr ⟨rfl, rfl, hj⟩, fun sz es e => by rw [e] at ht; cases ht⟩

theorem Stab.trans {a b c : World} {P1 P2 P3 : Pro} (h : Stab a b P1 P2) (k : Stab b c P2 P3) : Stab a c P1 P3 :=
  ⟨fun _ _ x => k.pr _ _ (h.pr _ _ x), fun _ _ _ x y => k.cell _ _ _ (h.pr _ _ x) (h.cell _ _ _ x y)⟩

/-- A slice of an array object, read as data. -/
theorem RelD.of_arr {w : World} {Pr Pr' : Pro} {p : Place} {os : List Ob} {o off len : Nat} {A : Option Addr} {cap sz : Nat} {es : List D} {fz : Bool} (hM : Mem w Pr p os)
    (hs : Stab w w Pr Pr') (ho : os[o]? = some (.arr sz es fz)) (hpr : ∀ j, j < es.length * sz → Pr' (p.bl o) j)
    (h : RelV w Pr p os (.msl o off len) (.slice A len cap)) : RelD w Pr' (.sl ((es.drop off).take len)) (.slice A len cap) := by
  cases h with
  | msl hol hc hn hh =>
    obtain ⟨hA, hl, hm⟩ := hh _ sz es.length ho rfl
    obtain ⟨vs, et, g1, g2, g3, g4, g5, g6, g7⟩ := hM.ob o _ ho
    have hlen : ((es.drop off).take len).length = len := by simp; omega
    by_cases h0 : len = 0
    · subst h0; simp only [List.take_zero]; exact .nil A cap
    · have hA' : A = some ⟨p.bl o, off * sz, none⟩ := by rcases hA with h | h; exact h; omega
      subst hA'
      have key : ∀ i (hi : i < ((es.drop off).take len).length), ((es.drop off).take len)[i] = es[off + i]'(by rw [hlen] at hi; omega) := by
        intro i hi
        simp [List.getElem_take, List.getElem_drop]
      have hlt : ∀ i, i < len → ∀ j, j < sz → (off + i) * sz + j < es.length * sz := by
        intro i hi j hj
        calc (off + i) * sz + j < (off + i) * sz + sz := by omega
          _ = (off + i + 1) * sz := (Nat.succ_mul _ _).symm
          _ ≤ es.length * sz := Nat.mul_le_mul_right _ (by omega)
      have hx : ∀ i j, i < len → j < sz → ∃ v, vs[(off + i) * sz + j]? = some v := by
        intro i j hi hj
        have hi' : off + i < es.length := by omega
        obtain ⟨v, h1, _⟩ := g6 (off + i) hi' j (by rw [g5 _ hi']; exact hj)
        exact ⟨v, h1⟩
      have := RelD.sl (w := w) (Pr := Pr') ((es.drop off).take len) (p.bl o) (off * sz) cap sz (fun i j => (vs[(off + i) * sz + j]?).getD undef) (by rw [hlen]; exact hc)
        (fun i hi => by rw [key i hi]; exact g5 _ _) (fun i j hi hj => by
          rw [hlen] at hi
          have := hlt i hi j hj
          rw [show off * sz + i * sz + j = (off + i) * sz + j by rw [Nat.add_mul]]
          exact hpr _ this)
        (fun i j hi hj => by
          rw [hlen] at hi
          obtain ⟨v, hv⟩ := hx i j hi hj
          rw [show off * sz + i * sz + j = (off + i) * sz + j by rw [Nat.add_mul]]
          simp only [cellAt, World.cell?, g1, hv]
          simp [hv])
        (fun i hi j hj => by
          have hi2 := hi
          rw [hlen] at hi2
          have hi' : off + i < es.length := by omega
          have hj' : j < es[off + i].cells.length := by rw [← key i hi]; exact hj
          obtain ⟨v, h1, h2, h3⟩ := g6 (off + i) hi' j hj'
          simp only [h1, Option.getD_some]
          have e : ((es.drop off).take len)[i].cells[j] = es[off + i].cells[j] := by simp [key i hi]
          rw [e]
          exact h3.mono hs)
      rw [hlen] at this
      exact this

/-- A slice of a tree, read as data. -/
theorem RelD.of_tree {w : World} {Pr Pr' : Pro} {p : Place} {os : List Ob} {o off len : Nat} {A : Option Addr} {cap sz : Nat} {es : List D} (hM : Mem w Pr p os)
    (ho : os[o]? = some (.tree sz (es.map .d))) (hpr : ∀ j, j < es.length * sz → Pr' (p.bl o) j) (hpn : ∀ k c i, p.ow k = some (o, c) → Pr' k i)
    (h : RelV w Pr p os (.msl o off len) (.slice A len cap)) : RelD w Pr' (.sl ((es.drop off).take len)) (.slice A len cap) := by
  cases h with
  | msl hol hc hn hh =>
    obtain ⟨hA, hl, hm⟩ := hh _ sz es.length ho (by simp [Ob.al])
    obtain ⟨vs, et, g1, g2, g3, g4, g5', g6', g7⟩ := hM.ob o _ ho
    have g5 : ∀ i (hi : i < es.length), es[i].cells.length = sz := fun i hi => by have := g5' i (by simp; exact hi); simpa [V.cells] using this
    have g6 : ∀ i (hi : i < es.length) j (hj : j < es[i].cells.length), ∃ v, vs[i * sz + j]? = some v ∧ v.oneCell' = true ∧ RelD w Pr' es[i].cells[j] v := fun i hi j hj => by
      obtain ⟨v, k1, k2, k3⟩ := g6' i (by simp; exact hi) j (by simp [V.cells]; exact hj)
      refine ⟨v, k1, k2, ?_⟩
      simp only [List.getElem_map, V.cells, RelC] at k3
      exact Tr.rel k3 fun k i hk => hpn k _ i hk
    have hlen : ((es.drop off).take len).length = len := by simp; omega
    by_cases h0 : len = 0
    · subst h0; simp only [List.take_zero]; exact .nil A cap
    · have hA' : A = some ⟨p.bl o, off * sz, none⟩ := by rcases hA with h | h; exact h; omega
      subst hA'
      have key : ∀ i (hi : i < ((es.drop off).take len).length), ((es.drop off).take len)[i] = es[off + i]'(by rw [hlen] at hi; omega) := by
        intro i hi
        simp [List.getElem_take, List.getElem_drop]
      have hlt : ∀ i, i < len → ∀ j, j < sz → (off + i) * sz + j < es.length * sz := by
        intro i hi j hj
        calc (off + i) * sz + j < (off + i) * sz + sz := by omega
          _ = (off + i + 1) * sz := (Nat.succ_mul _ _).symm
          _ ≤ es.length * sz := Nat.mul_le_mul_right _ (by omega)
      have hx : ∀ i j, i < len → j < sz → ∃ v, vs[(off + i) * sz + j]? = some v := by
        intro i j hi hj
        have hi' : off + i < es.length := by omega
        obtain ⟨v, h1, _⟩ := g6 (off + i) hi' j (by rw [g5 _ hi']; exact hj)
        exact ⟨v, h1⟩
      have := RelD.sl (w := w) (Pr := Pr') ((es.drop off).take len) (p.bl o) (off * sz) cap sz (fun i j => (vs[(off + i) * sz + j]?).getD undef) (by rw [hlen]; exact hc)
        (fun i hi => by rw [key i hi]; exact g5 _ _) (fun i j hi hj => by
          rw [hlen] at hi
          have := hlt i hi j hj
          rw [show off * sz + i * sz + j = (off + i) * sz + j by rw [Nat.add_mul]]
          exact hpr _ this)
        (fun i j hi hj => by
          rw [hlen] at hi
          obtain ⟨v, hv⟩ := hx i j hi hj
          rw [show off * sz + i * sz + j = (off + i) * sz + j by rw [Nat.add_mul]]
          simp only [cellAt, World.cell?, g1, hv]
          simp [hv])
        (fun i hi j hj => by
          have hi2 := hi
          rw [hlen] at hi2
          have hi' : off + i < es.length := by omega
          have hj' : j < es[off + i].cells.length := by rw [← key i hi]; exact hj
          obtain ⟨v, h1, h2, h3⟩ := g6 (off + i) hi' j hj'
          simp only [h1, Option.getD_some]
          have e : ((es.drop off).take len)[i].cells[j] = es[off + i].cells[j] := by simp [key i hi]
          rw [e]
          exact h3)
      rw [hlen] at this
      exact this

end Go.PL

/- PlLeaf -/
/- What is read as data of a value. -/
namespace Go.PL
open Go

theorem Frz.left {Pr : Pro} {p : Place} {os : List Ob} {a b : List Nat} (h : Frz Pr p os (a ++ b)) : Frz Pr p os a := fun o ho => h o (List.mem_append_left _ ho)
theorem Frz.right {Pr : Pro} {p : Place} {os : List Ob} {a b : List Nat} (h : Frz Pr p os (a ++ b)) : Frz Pr p os b := fun o ho => h o (List.mem_append_right _ ho)

section
variable {w : World} {Pr Pr' : Pro} {p : Place} {os : List Ob}

theorem leaf0_rel (hM : Mem w Pr p os) (hs : Stab w w Pr Pr') {v : V} {d : D} {l : List Nat} {x : Value} (h : leaf0 os v = some (d, l)) (hf : Frz Pr' p os l) (hr : RelV w Pr p os v x) : RelD w Pr' d x := by
  cases v with
  | d y =>
    simp only [leaf0, Option.some.injEq, Prod.mk.injEq] at h
    obtain ⟨rfl, rfl⟩ := h
    cases hr with
    | d h => exact h.mono hs
  | msl o off len =>
    simp only [leaf0] at h
    split at h
    · rename_i sz es fz ho
      simp only [Option.some.injEq, Prod.mk.injEq] at h
      obtain ⟨rfl, rfl⟩ := h
      have hr2 := hr
      cases hr with
      | msl _ _ _ _ => exact RelD.of_arr hM hs ho (fun j hj => (hf o (by simp) _ ho (by simp)).1 j hj) hr2
    · rename_i sz es ho
      split at h
      · rename_i ds hds
        simp only [Option.some.injEq, Prod.mk.injEq] at h
        obtain ⟨rfl, rfl⟩ := h
        have := allD_rel hds
        subst this
        obtain ⟨f1, f2⟩ := hf o (by simp) _ ho (by simp)
        have hr2 := hr
        cases hr with
        | msl _ _ _ _ => exact RelD.of_tree hM ho (fun j hj => f1 j (by simpa [Ob.cnt, hds] using hj)) (fun k c i hk => f2 _ _ rfl (by simp [hds]) k c i hk) hr2
      · cases h
    · cases h
  | _ => simp [leaf0] at h

theorem mapL_rel {f : V → Option (D × List Nat)} (hf : ∀ {v d l x}, f v = some (d, l) → Frz Pr' p os l → RelV w Pr p os v x → RelD w Pr' d x) :
    ∀ {vs : List V} {ds : List D} {l : List Nat}, mapL f vs = some (ds, l) → Frz Pr' p os l → ds.length = vs.length ∧ ∀ i (hi : i < vs.length) (hi' : i < ds.length) x, RelV w Pr p os vs[i] x → RelD w Pr' ds[i] x
  | [], ds, l, h, _ => by
    simp only [mapL, Option.some.injEq, Prod.mk.injEq] at h
    obtain ⟨rfl, rfl⟩ := h
    exact ⟨rfl, fun i hi => absurd hi (by simp)⟩
  | v :: r, ds, l, h, hz => by
    simp only [mapL] at h
    split at h
    · rename_i x a xs b h1 h2
      simp only [Option.some.injEq, Prod.mk.injEq] at h
      obtain ⟨rfl, rfl⟩ := h
      obtain ⟨g1, g2⟩ := mapL_rel hf h2 hz.right
      refine ⟨by simp [g1], fun i hi hi' x hx => ?_⟩
      cases i with
      | zero => exact hf h1 hz.left hx
      | succ i => exact g2 i (by simpa using hi) (by simpa using hi') x hx
    · cases h

theorem leaf1_rel (hM : Mem w Pr p os) (hs : Stab w w Pr Pr') {v : V} {d : D} {l : List Nat} {x : Value} (h : leaf1 os v = some (d, l)) (hf : Frz Pr' p os l) (hr : RelV w Pr p os v x) : RelD w Pr' d x := by
  cases v with
  | ref o i j =>
    simp only [leaf1] at h
    split at h
    · rename_i cs fz ho
      split at h
      · rename_i xs a h1
        simp only [Option.some.injEq, Prod.mk.injEq] at h
        obtain ⟨rfl, rfl⟩ := h
        cases hr with
        | @ref _ _ _ ad hol hh =>
          have e := hh _ ho (by simp)
          simp only [Nat.zero_mul, Nat.zero_add] at e
          subst e
          obtain ⟨vs, et, g1, g2, g3, g4⟩ := hM.ob o _ ho
          have hfz : Frz Pr' p os a := fun o ho => hf o (List.mem_cons_of_mem _ ho)
          obtain ⟨k1, k2⟩ := mapL_rel (fun h hz hr => leaf0_rel hM hs h hz hr) h1 hfz
          have hx : ∀ k, k < cs.length → ∃ v, vs[k]? = some v ∧ RelV w Pr p os (cs.getD k .any) v := by
            intro k hk
            obtain ⟨v, m1, _, m3⟩ := g3 k hk
            exact ⟨v, m1, by simpa [List.getD, List.getElem?_eq_getElem hk] using m3⟩
          refine .ptr (xs.drop j) (p.bl o) j (fun k => (vs[j + k]?).getD undef) (fun k hk => ?_) (fun k hk => ?_) (fun k hk => ?_)
          · simp at hk
            exact (hf o (by simp) _ ho (by simp)).1 _ (by simp [Ob.cnt]; omega)
          · simp at hk
            obtain ⟨v, m1, _⟩ := hx (j + k) (by omega)
            simp only [cellAt, World.cell?, g1, m1]
            simp [m1]
          · simp at hk
            have hlt : j + k < cs.length := by omega
            obtain ⟨v, m1, _, m3⟩ := g3 (j + k) hlt
            simp only [m1, Option.getD_some, List.getElem_drop]
            exact k2 (j + k) hlt (by omega) v m3
      · cases h
    · cases h
  | agg cs =>
    simp only [leaf1] at h
    split at h
    · rename_i xs a h1
      simp only [Option.some.injEq, Prod.mk.injEq] at h
      obtain ⟨rfl, rfl⟩ := h
      obtain ⟨k1, k2⟩ := mapL_rel (fun h hz hr => leaf0_rel hM hs h hz hr) h1 hf
      cases hr with
      | agg hz hh => exact .agg xs _ (by omega) (fun i hi => k2 i (by omega) hi _ (hh i (by omega)))
    · cases h
  | _ => simp only [leaf1] at h; exact leaf0_rel hM hs h hf hr

theorem leaf_rel (hM : Mem w Pr p os) (hs : Stab w w Pr Pr') {v : V} {d : D} {l : List Nat} {x : Value} (h : leaf os v = some (d, l)) (hf : Frz Pr' p os l) (hr : RelV w Pr p os v x) : RelD w Pr' d x := by
  cases v with
  | fn f a b =>
    simp only [leaf] at h
    split at h
    · rename_i xs l1 ys l2 h1 h2
      simp only [Option.some.injEq, Prod.mk.injEq] at h
      obtain ⟨rfl, rfl⟩ := h
      obtain ⟨k1, k2⟩ := mapL_rel (fun h hz hr => leaf1_rel hM hs h hz hr) h1 hf.left
      obtain ⟨m1, m2⟩ := mapL_rel (fun h hz hr => leaf1_rel hM hs h hz hr) h2 hf.right
      cases hr with
      | fn e1 e2 q1 q2 => exact .fn f xs ys _ _ (by omega) (by omega) (fun i hi => k2 i (by omega) hi _ (q1 i (by omega))) (fun i hi => m2 i (by omega) hi _ (q2 i (by omega)))
    · cases h
  | _ => simp only [leaf] at h; exact leaf1_rel hM hs h hf hr

/-- A value and its cells. -/
theorem RelD.cells {x : D} {v : Value} (h : RelD w Pr x v) (h1 : x.cells.all D.one = true) : x.cells.length = v.cells.size ∧ ∀ j (hj : j < x.cells.length), ∃ u, v.cells[j]? = some u ∧ u.oneCell' = true ∧ RelD w Pr x.cells[j] u := by
  have leaf : ∀ {x : D} {v : Value}, x.cells = [x] → x.one = true → RelD w Pr x v → x.cells.length = v.cells.size ∧ ∀ j (hj : j < x.cells.length), ∃ u, v.cells[j]? = some u ∧ u.oneCell' = true ∧ RelD w Pr x.cells[j] u := by
    intro x v e ho h
    have hv := h.one ho
    have e2 : v.cells = #[v] := by cases v <;> first | rfl | simp [Value.oneCell'] at hv
    rw [e2]
    refine ⟨by simp [e], fun j hj => ?_⟩
    have hj0 : j = 0 := by simp [e] at hj; omega
    subst hj0
    exact ⟨v, by simp, hv, by simpa [e] using h⟩
  cases x with
  | agg cs =>
    cases h with
    | agg _ vs hz hh =>
      refine ⟨by simp [D.cells, Value.cells, hz], fun j hj => ?_⟩
      simp only [D.cells] at hj
      have hj' : j < vs.size := by omega
      have ho : (cs[j]).one = true := by
        have := List.all_eq_true.1 h1 cs[j] (by simp [D.cells])
        exact this
      exact ⟨vs[j], by simp [Value.cells, hj'], (hh j hj).one ho, hh j hj⟩
  | _ => exact leaf rfl (by simpa [D.cells] using h1) h

theorem RelV.cells {x : V} {v : Value} (h : RelV w Pr p os x v) (h1 : x.cells.all V.one = true) : x.cells.length = v.cells.size ∧ ∀ j (hj : j < x.cells.length), ∃ u, v.cells[j]? = some u ∧ u.oneCell' = true ∧ RelV w Pr p os x.cells[j] u := by
  have leaf : ∀ {x : V} {v : Value}, x.cells = [x] → x.one = true → RelV w Pr p os x v → x.cells.length = v.cells.size ∧ ∀ j (hj : j < x.cells.length), ∃ u, v.cells[j]? = some u ∧ u.oneCell' = true ∧ RelV w Pr p os x.cells[j] u := by
    intro x v e ho h
    have hv := h.one ho
    have e2 : v.cells = #[v] := by cases v <;> first | rfl | simp [Value.oneCell'] at hv
    rw [e2]
    refine ⟨by simp [e], fun j hj => ?_⟩
    have hj0 : j = 0 := by simp [e] at hj; omega
    subst hj0
    exact ⟨v, by simp, hv, by simpa [e] using h⟩
  cases x with
  | agg cs =>
    cases h with
    | agg hz hh =>
      rename_i vs
      refine ⟨by simp [V.cells, Value.cells, hz], fun j hj => ?_⟩
      simp only [V.cells] at hj
      have hj' : j < vs.size := by omega
      have ho : (cs[j]).one = true := List.all_eq_true.1 h1 cs[j] (by simp [V.cells])
      exact ⟨vs[j], by simp [Value.cells, hj'], (hh j hj).one ho, hh j hj⟩
  | d y =>
    cases h with
    | d h =>
      have h1' : y.cells.all D.one = true := by
        rw [List.all_eq_true] at h1 ⊢
        intro z hz
        exact h1 (.d z) (List.mem_map.2 ⟨z, hz, rfl⟩)
      obtain ⟨k1, k2⟩ := RelD.cells h h1'
      refine ⟨by simpa [V.cells] using k1, fun j hj => ?_⟩
      simp only [V.cells, List.length_map] at hj
      obtain ⟨u, m1, m2, m3⟩ := k2 j hj
      exact ⟨u, m1, m2, by simpa [V.cells] using RelV.d m3⟩
  | _ => exact leaf rfl (by simpa [V.cells] using h1) h


theorem RelV.unD {x : D} {v : Value} (h : RelV w Pr p os (.d x) v) : RelD w Pr x v := by cases h; assumption

theorem RelV.mkAgg {cs : List V} {vs : Array Value} (hs : vs.size = cs.length) (hr : ∀ i (hi : i < cs.length), RelV w Pr p os cs[i] (vs[i]'(by omega))) : RelV w Pr p os (mkAgg cs) (.agg vs) := by
  unfold PL.mkAgg
  split
  · rename_i ds h
    have := allD_rel h
    subst this
    exact .d (.agg ds vs (by simpa using hs) (fun i hi => by have := hr i (by simpa using hi); rw [List.getElem_map] at this; exact this.unD))
  · exact .agg hs hr

theorem RelV.mkFn {f : Fn} {a b : List V} {vf vc : Array Value} (hf : vf.size = a.length) (hcz : vc.size = b.length)
    (hrf : ∀ i (hi : i < a.length), RelV w Pr p os a[i] (vf[i]'(by omega)))
    (hrc : ∀ i (hi : i < b.length), RelV w Pr p os b[i] (vc[i]'(by omega))) : RelV w Pr p os (mkFn f a b) (.func f vf vc) := by
  unfold PL.mkFn
  split
  · rename_i x y h1 h2
    have e1 := allD_rel h1
    have e2 := allD_rel h2
    subst e1; subst e2
    exact .d (.fn f x y vf vc (by simpa using hf) (by simpa using hcz)
      (fun i hi => by have := hrf i (by simpa using hi); rw [List.getElem_map] at this; exact this.unD)
      (fun i hi => by have := hrc i (by simpa using hi); rw [List.getElem_map] at this; exact this.unD))
  · exact .fn hf hcz hrf hrc

end
end Go.PL

/- PlOps -/
/- Each operation of the plain machine is what the machine does. -/
namespace Go.PL
open Go

theorem ti_spec0 {P : Program} {t : TypeId} {i : TI} (h : ti0 P t = some i) : ∃ n u z k, P.info? t = some n ∧ P.underlying t = some u ∧ n.zero = some z ∧ TK.of P u = some k ∧
    i = ⟨n.size, n.bytes, z.cells.toList, isAggD u, k⟩ ∧ z.cells.size = n.size ∧ z.cells.toList.all oneC = true ∧ (isAggD u = true ∨ n.size = 1) := by
  unfold ti0 at h
  split at h
  · rename_i n u h1 h2
    split at h
    · rename_i z k h3 h4
      split at h
      · rename_i h5
        exact ⟨n, u, z, k, h1, h2, h3, h4, (Option.some.inj h).symm, h5.1, h5.2.1, h5.2.2⟩
      · cases h
    · cases h
  · cases h

theorem ti_spec {P : Program} {T : Tab} [hT : TOk T P] {t : TypeId} {i : TI} (h : ti T t = some i) : ∃ n u z k, P.info? t = some n ∧ P.underlying t = some u ∧ n.zero = some z ∧ TK.of P u = some k ∧
    i = ⟨n.size, n.bytes, z.cells.toList, isAggD u, k⟩ ∧ z.cells.size = n.size ∧ z.cells.toList.all oneC = true ∧ (isAggD u = true ∨ n.size = 1) :=
  ti_spec0 (hT.ok t i h)

theorem tk_spec {P : Program} {T : Tab} [TOk T P] {t : TypeId} {k : TK} (h : tk T t = k) (hk : k ≠ .oth) : ∃ n u, P.info? t = some n ∧ P.underlying t = some u ∧ TK.of P u = some k := by
  unfold tk at h
  split at h
  · rename_i i hi
    obtain ⟨n, u, z, k', h1, h2, h3, h4, h5, _⟩ := ti_spec hi
    subst h5
    simp only at h
    subst h
    exact ⟨n, u, h1, h2, h4⟩
  · exact absurd h.symm hk

theorem TK.of_sl {P : Program} {u : TypeDesc} {e : Nat} (h : TK.of P u = some (.sl e)) : u = .slice e := by
  cases u <;> simp [TK.of] at h
  · exact congrArg _ h
theorem TK.of_int {P : Program} {u : TypeDesc} {k : IntKind} (h : TK.of P u = some (.int k)) : u = .int k := by
  cases u <;> simp [TK.of] at h
  · exact congrArg _ h
theorem TK.of_str {P : Program} {u : TypeDesc} (h : TK.of P u = some .str) : u = .string := by
  cases u <;> simp [TK.of] at h
  · rfl
theorem TK.of_st {P : Program} {u : TypeDesc} {l : List (Nat × Nat × Bool)} (h : TK.of P u = some (.st l)) : ∃ fs, u = .struct fs ∧ fieldTIs P fs.toList = some l := by
  cases u <;> simp [TK.of] at h
  · exact ⟨_, rfl, h⟩

theorem fieldTIs_get {P : Program} : ∀ {fs : List Field} {l : List (Nat × Nat × Bool)}, fieldTIs P fs = some l → l.length = fs.length ∧
    ∀ (i : Nat) (x : Nat × Nat × Bool), l[i]? = some x → ∃ (f : Field) (n : TypeInfo) (u : TypeDesc), fs[i]? = some f ∧ P.info? f.type = some n ∧ P.underlying f.type = some u ∧ x = (f.offset, n.size, isAggD u)
  | [], l, h => by simp [fieldTIs] at h; subst h; simp
  | f :: r, l, h => by
    simp only [fieldTIs] at h
    split at h
    · rename_i n u l' h1 h2 h3
      obtain ⟨g1, g2⟩ := fieldTIs_get h3
      simp only [Option.some.injEq] at h
      subst h
      refine ⟨by simp [g1], fun i x hx => ?_⟩
      cases i with
      | zero => simp at hx; subst hx; exact ⟨f, n, u, by simp, h1, h2, rfl⟩
      | succ i => simp at hx; obtain ⟨f', n', u', k1, k2, k3, k4⟩ := g2 i x hx; exact ⟨f', n', u', by simpa using k1, k2, k3, k4⟩
    · cases h

theorem fieldTIs_places {P : Program} : ∀ {fs : List Field} {l : List (Nat × Nat × Bool)}, fieldTIs P fs = some l →
    fs.mapM (fun f => (P.info? f.type).map fun i => (f.offset, i.size)) = some (l.map fun x => (x.1, x.2.1))
  | [], l, h => by simp [fieldTIs] at h; subst h; simp
  | f :: r, l, h => by
    simp only [fieldTIs] at h
    split at h
    · rename_i n u l' h1 h2 h3
      have ih := fieldTIs_places h3
      simp only [Option.some.injEq] at h
      subst h
      simp [List.mapM_cons, h1, ih]
    · cases h

/-- What an operation comes to. -/
def EnvR (w : World) (Pr : Pro) (p : Place) (os : List Ob) (tmps : Array Value) (env : List (Nat × V)) : Prop := ∀ t, RelV w Pr p os (look env t) (tmps.getD t undef)

structure Got (nF : Nat) (w w' : World) (Pr Pr' : Pro) (p p' : Place) (st s : St) (tmps : Array Value) : Prop where
  moved : Moved nF w w' Pr Pr' p p' st.os s.os
  env : EnvR w' Pr' p' s.os tmps s.env

def Out (nF : Nat) (w : World) (Pr : Pro) (p : Place) (st : St) (tmps : Array Value) (K : V → St → Prop) (r : Result Next) : Prop :=
  ∃ v s u w' Pr' p', K v s ∧ (r = .ok (.value u) w' ∨ (r = .ok .skip w' ∧ u = undef)) ∧ Got nF w w' Pr Pr' p p' st s tmps ∧ RelV w' Pr' p' s.os v u

section
variable {P : Program} {T : Tab} [TOk T P] {nF : Nat} {w : World} {Pr : Pro} {p : Place} {st : St} {a : Act} {K : V → St → Prop}

theorem Out.pure (hM : Mem w Pr p st.os) (hE : EnvR w Pr p st.os a.tmps st.env) {v : V} {u : Value} {r : Result Next} (hK : K v st) (hr : r = .ok (.value u) w) (hv : RelV w Pr p st.os v u) : Out nF w Pr p st a.tmps K r :=
  ⟨v, st, u, w, Pr, p, hK, .inl hr, ⟨.refl hM, hE⟩, hv⟩

theorem evalR (hE : EnvR w Pr p st.os a.tmps st.env) (x : Operand) : RelV w Pr p st.os (ev st.env x) (a.eval x) := by
  cases x with
  | tmp t => exact hE t
  | const v =>
    refine .d ?_
    cases v with
    | agg vs => exact .agg _ vs (by simp) (fun i hi => by simp at hi; simpa using RelD.val _)
    | _ => exact .val _
  | global g => exact .any
  | func f => exact .d (.fn _ _ _ #[] #[] rfl rfl (fun i hi => absurd hi (by simp)) (fun i hi => absurd hi (by simp)))

theorem RelV.int {os : List Ob} {v : Value} {k : IntKind} {n : Int} (h : RelV w Pr p os (.d (.val (.int k n))) v) : v = .int k n := by cases h; rename_i h; cases h; rfl
theorem RelV.bool {b : Bool} {v : Value} {os : List Ob} (h : RelV w Pr p os (.d (.val (.bool b))) v) : v = .bool b := by cases h; rename_i h; cases h; rfl
theorem RelV.val {x v : Value} {os : List Ob} (h : RelV w Pr p os (.d (.val x)) v) : v = x := by cases h; rename_i h; cases h; rfl

end
end Go.PL

/- PlOps2 -/
namespace Go.PL
open Go

section
variable {P : Program} {T : Tab} [TOk T P] {nF : Nat} {w : World} {Pr : Pro} {p : Place} {st : St} {a : Act} {K : V → St → Prop}
variable {dst : Option Tmp} {type : TypeId} {pos : String} {after : Array Edge} {guard : Option (Nat × Bool)}

theorem out_move (hM : Mem w Pr p st.os) (hE : EnvR w Pr p st.os a.tmps st.env) {x : Operand} (h : K (ev st.env x) st) :
    Out nF w Pr p st a.tmps K ((execOp a.eval ⟨dst, .move x, type, pos, after, guard⟩).run P w) := .pure hM hE h rfl (evalR hE x)

theorem out_assign (hM : Mem w Pr p st.os) (hE : EnvR w Pr p st.os a.tmps st.env) {x : Operand} (h : K (ev st.env x) st) :
    Out nF w Pr p st a.tmps K ((execOp a.eval ⟨dst, .assign x, type, pos, after, guard⟩).run P w) := .pure hM hE h rfl (evalR hE x)

theorem out_pick (hM : Mem w Pr p st.os) (hE : EnvR w Pr p st.os a.tmps st.env) {c x y : Operand} (h : opK T nF st (.pick c x y) K) :
    Out nF w Pr p st a.tmps K ((execOp a.eval ⟨dst, .pick c x y, type, pos, after, guard⟩).run P w) := by
  simp only [opK] at h
  split at h
  · rename_i t ht
    have hc := evalR hE c
    rw [ht] at hc
    have e := hc.bool
    cases t
    · exact .pure hM hE h (by simp [execOp, e, asBool]) (evalR hE y)
    · exact .pure hM hE h (by simp [execOp, e, asBool]) (evalR hE x)
  · exact h.elim

theorem EnvR.moved {w' : World} {Pr' : Pro} {p' : Place} {os' : List Ob} {tmps : Array Value} {env : List (Nat × V)} (hs : Stab w w' Pr Pr') (hc : Cmp p p' st.os os') (h : EnvR w Pr p st.os tmps env) : EnvR w' Pr' p' os' tmps env :=
  fun t => (h t).cmp hs hc

/-- A new object, and a reference to it. -/
theorem out_push (hM : Mem w Pr p st.os) (hE : EnvR w Pr p st.os a.tmps st.env) (hnF : nF ≤ st.os.length) {ob : Ob} {vs : Array Value} {et room : Nat} {w' : World} {r : Result Next} {v : V} {u : Value}
    (hw : w'.heap = w.heap.push (.cells vs et (0, 0))) (h1 : w'.os = w.os) (h2 : w'.tape = w.tape) (h3 : w'.output = w.output)
    (hob : PreOb w Pr p st.os room vs ob) (hf : ob.fzn = false) (hr : r = .ok (.value u) w')
    (hv : RelV w' Pr (p.at st.os.length w.heap.size room) (st.os ++ [ob]) v u) (hK : K v { st with os := st.os ++ [ob] }) : Out nF w Pr p st a.tmps K r := by
  obtain ⟨m, hs, hc⟩ := push hM hnF hw h1 h2 h3 hob hf
  exact ⟨v, _, u, w', _, _, hK, .inl hr, ⟨m, EnvR.moved hs hc hE⟩, hv⟩

theorem oneC_iff (v : Value) : oneC v = v.oneCell' := by cases v <;> rfl

theorem out_alloc (hM : Mem w Pr p st.os) (hE : EnvR w Pr p st.os a.tmps st.env) (hnF : nF ≤ st.os.length) {t : TypeId} (h : opK T nF st (.alloc t) K) :
    Out nF w Pr p st a.tmps K ((execOp a.eval ⟨dst, .alloc t, type, pos, after, guard⟩).run P w) := by
  simp only [opK] at h
  split at h
  · rename_i i hi
    obtain ⟨n, u, z, k, h1, h2, h3, h4, rfl, h6, h7, h8⟩ := ti_spec hi
    refine out_push (w' := w.alloc (.cells z.cells t)) (vs := z.cells) (et := t) (room := 0) (u := .pointer (some ⟨w.heap.size, 0, none⟩)) hM hE hnF rfl rfl rfl rfl ?_ rfl ?_ ?_ h
    · refine ⟨by simp, fun j hj => ?_⟩
      simp at hj
      refine ⟨z.cells[j], by simp [hj], ?_, ?_⟩
      · rw [← oneC_iff]; exact List.all_eq_true.1 h7 _ (by simp)
      · simpa using RelV.d (RelD.val _)
    · simp [execOp, Instr.alloc, zeroValue, typeInfo, h1, h3, newVar, newRow]
    · refine .ref (by simp) fun ob ho hd => ?_
      simp [Place.at]
  · exact h.elim

theorem out_box (hM : Mem w Pr p st.os) (hE : EnvR w Pr p st.os a.tmps st.env) (hnF : nF ≤ st.os.length) {t : TypeId} {x : Operand} (h : opK T nF st (.box t x) K) :
    Out nF w Pr p st a.tmps K ((execOp a.eval ⟨dst, .box t x, type, pos, after, guard⟩).run P w) := by
  simp only [opK] at h
  obtain ⟨h1, h2⟩ := h
  obtain ⟨k1, k2⟩ := RelV.cells (evalR hE x) h1
  refine out_push (w' := w.alloc (.cells (a.eval x).cells t)) (vs := (a.eval x).cells) (et := t) (room := 0) (ob := .var (ev st.env x).cells false) (u := .pointer (some ⟨w.heap.size, 0, none⟩)) hM hE hnF rfl rfl rfl rfl ⟨k1.symm, k2⟩ rfl ?_ ?_ h2
  · simp [execOp, Instr.box, newVar, newRow]
  · refine .ref (by simp) fun ob ho hd => ?_
    simp [Place.at]

theorem TK.struct_agg {fs : Array Field} : isAggD (.struct fs) = true := rfl

/-- Loads. -/
theorem loadVar_one {t : TypeId} {u : TypeDesc} (hu : P.underlying t = some u) (hg : isAggD u = false) {ad : Addr} {v : Value} (hv : w.cell? ad = some v) : (loadVar t ad).run P w = .ok v w := by
  cases u <;> first | (simp [isAggD] at hg; done) | simp [loadVar, isAgg, run_underlying hu, hv]

theorem loadVar_agg {t : TypeId} {u : TypeDesc} {n : TypeInfo} (hu : P.underlying t = some u) (hn : P.info? t = some n) (hg : isAggD u = true) {ad : Addr} {cs : List Value} (hl : cs.length = n.size)
    (h : ∀ j v, cs[j]? = some v → w.cell? (ad.add j) = some v) : (loadVar t ad).run P w = .ok (.agg cs.toArray) w := by
  have hr := run_loadCells_list (P := P) w ad cs h
  rw [hl] at hr
  cases u <;> first | (simp [isAggD] at hg; done) | simp [loadVar, isAgg, run_underlying hu, sizeOf, typeInfo, hn, hr]

theorem Addr.add_none (b off j : Nat) : (⟨b, off, none⟩ : Addr).add j = ⟨b, off + j, none⟩ := by unfold Addr.add; split <;> simp_all

/-- Cells in a row, held by a list. -/
theorem load_cells {t : TypeId} {i : TI} (hi : ti T t = some i) {b off : Nat} {cs : List V} (hl : (bif i.agg then i.size else 1) ≤ cs.length)
    (hc : ∀ j (hj : j < cs.length), ∃ v, cellAt w b (off + j) = some v ∧ RelV w Pr p st.os cs[j] v) :
    ∃ u, (loadVar t ⟨b, off, none⟩).run P w = .ok u w ∧ RelV w Pr p st.os (ofCells i.agg cs i.size) u := by
  obtain ⟨n, u, z, k, h1, h2, h3, h4, rfl, h6, h7, h8⟩ := ti_spec hi
  simp only at hl ⊢
  cases hg : isAggD u with
  | false =>
    simp only [hg, cond_false] at hl
    obtain ⟨v, g1, g2⟩ := hc 0 (by omega)
    refine ⟨v, loadVar_one h2 hg (by simpa [cellAt] using g1), ?_⟩
    have : cs.head? = some cs[0] := by cases cs with | nil => simp at hl | cons x r => rfl
    simp [ofCells, this]
    exact g2
  | true =>
    simp only [hg, cond_true] at hl
    have hex : ∀ j, ∃ v, (j < n.size → cellAt w b (off + j) = some v ∧ ∀ hj : j < cs.length, RelV w Pr p st.os cs[j] v) := by
      intro j
      by_cases hj : j < n.size
      · obtain ⟨v, g1, g2⟩ := hc j (by omega)
        exact ⟨v, fun _ => ⟨g1, fun _ => g2⟩⟩
      · exact ⟨undef, fun h => absurd h hj⟩
    let f : Nat → Value := fun j => Classical.choose (hex j)
    have hf : ∀ j, j < n.size → cellAt w b (off + j) = some (f j) ∧ ∀ hj : j < cs.length, RelV w Pr p st.os cs[j] (f j) := fun j => Classical.choose_spec (hex j)
    refine ⟨.agg ((List.range n.size).map f).toArray, loadVar_agg (n := n) h2 h1 hg (by simp) ?_, ?_⟩
    · intro j v hv
      simp only [List.getElem?_map] at hv
      by_cases hj : j < n.size
      · rw [List.getElem?_range hj] at hv
        simp at hv
        subst hv
        rw [Addr.add_none]
        exact (hf j hj).1
      · rw [List.getElem?_eq_none (by simp; omega)] at hv; cases hv
    · simp only [ofCells, if_true]
      refine RelV.mkAgg (by simp; omega) fun j hj => ?_
      have hj' : j < n.size ∧ j < cs.length := by rw [List.length_take] at hj; omega
      simp only [List.getElem_toArray, List.getElem_map, List.getElem_range, List.getElem_take]
      exact (hf j hj'.1).2 hj'.2

theorem dOf_map {g : Bool} {cs : List D} {n : Nat} (h : (bif g then n else 1) ≤ cs.length) : ofCells g (cs.map V.d) n = .d (dOfCells g cs n) := by
  have all : ∀ l : List D, allD (l.map V.d) = some l := by
    intro l
    induction l with
    | nil => rfl
    | cons x r ih => simp [allD, V.isD, ih]
  cases g with
  | true => simp [ofCells, dOfCells, mkAgg, ← List.map_take, all]
  | false => cases cs with
    | nil => simp at h
    | cons x r => simp [ofCells, dOfCells]

theorem evgR {T : Tab} (hE : EnvR w Pr p st.os a.tmps st.env) (hD : ∀ x ∈ T.gs, RelD w Pr (.ptr x.2) (.pointer (some ⟨x.1, 0, none⟩))) (x : Operand) : RelV w Pr p st.os (evg T st.env x) (a.eval x) := by
  cases x with
  | global g =>
    have key : ∀ l : List (Nat × List D), (∀ x ∈ l, RelD w Pr (.ptr x.2) (.pointer (some ⟨x.1, 0, none⟩))) → RelV w Pr p st.os (match gsL l g with | some cs => .d (.ptr cs) | none => .any) (.pointer (some ⟨g, 0, none⟩)) := by
      intro l
      induction l with
      | nil => exact fun _ => .any
      | cons x r ih =>
        intro h
        obtain ⟨k, cs⟩ := x
        simp only [gsL]
        cases hb : Nat.beq k g with
        | true =>
          have := h (k, cs) (by simp)
          rw [Nat.eq_of_beq_eq_true hb] at this
          exact .d this
        | false => exact ih fun x hx => h x (by simp [hx])
    exact key T.gs hD
  | tmp t => exact evalR hE (.tmp t)
  | const v => exact evalR hE (.const v)
  | func f => exact evalR hE (.func f)

theorem out_load (hM : Mem w Pr p st.os) (hE : EnvR w Pr p st.os a.tmps st.env) (hD : ∀ x ∈ T.gs, RelD w Pr (.ptr x.2) (.pointer (some ⟨x.1, 0, none⟩))) {t : TypeId} {x : Operand} (h : opK T nF st (.load t x) K) :
    Out nF w Pr p st a.tmps K ((execOp a.eval ⟨dst, .load t x, type, pos, after, guard⟩).run P w) := by
  simp only [opK] at h
  split at h
  · rename_i i hi
    have hx := evgR hE hD x
    unfold loadK at h
    split at h
    · rename_i o e j he
      rw [he] at hx
      split at h
      · rename_i cs fz ho
        obtain ⟨rfl, h2, h3⟩ := h
        generalize hax : a.eval x = av at hx
        cases hx with
        | ref hol hh =>
          rename_i ad
          have e := hh _ ho (by simp)
          simp only [Nat.zero_mul, Nat.zero_add] at e
          subst e
          obtain ⟨vs, et, g1, g2, g3, g4⟩ := hM.ob o _ ho
          obtain ⟨u, k1, k2⟩ := load_cells (P := P) (w := w) (Pr := Pr) (p := p) (st := st) hi (b := p.bl o) (off := j) (cs := cs.drop j) (by simp; omega) (fun m hm => by
            simp at hm
            obtain ⟨v, q1, q2, q3⟩ := g3 (j + m) (by omega)
            exact ⟨v, by simp [cellAt, World.cell?, g1, q1], by simpa using q3⟩)
          exact .pure hM hE h3 (by simp [execOp, Instr.loadAt, Instr.sureAddr, hax, k1]) k2
      · rename_i sz es fz ho
        obtain ⟨h1, h2, h3⟩ := h
        generalize hax : a.eval x = av at hx
        cases hx with
        | ref hol hh =>
          rename_i ad
          have e2 := hh _ ho (by simp)
          subst e2
          obtain ⟨vs, et, g1, g2, g3, g4, g5, g6, g7⟩ := hM.ob o _ ho
          have hgd : gd es e = es[e] := by simp [gd, h1]
          obtain ⟨u, k1, k2⟩ := load_cells (P := P) (w := w) (Pr := Pr) (p := p) (st := st) hi (b := p.bl o) (off := e * sz + j) (cs := ((gd es e).cells.drop j).map .d) (by simp; omega) (fun m hm => by
            simp [hgd] at hm
            obtain ⟨v, q1, q2, q3⟩ := g6 e h1 (j + m) (by omega)
            exact ⟨v, by simp [cellAt, World.cell?, g1, Nat.add_assoc, q1], by simpa [hgd] using RelV.d q3⟩)
          rw [dOf_map (by simp; omega)] at k2
          exact .pure hM hE h3 (by simp [execOp, Instr.loadAt, Instr.sureAddr, Ob.sz, hax, k1]) k2
      · rename_i sz es ho
        obtain ⟨h1, h2, h4, h3⟩ := h
        generalize hax : a.eval x = av at hx
        cases hx with
        | ref hol hh =>
          rename_i ad
          have e2 := hh _ ho (by simp)
          subst e2
          obtain ⟨vs, et, g1, g2, g3, g4, g5, g6, g7⟩ := hM.ob o _ ho
          have hgd : gv es e = es[e] := by simp [gv, h1]
          obtain ⟨u, k1, k2⟩ := load_cells (P := P) (w := w) (Pr := Pr) (p := p) (st := st) hi (b := p.bl o) (off := e * sz + j) (cs := ((gv es e).cells.drop j).take (bif i.agg then i.size else 1)) (by simp; omega) (fun m hm => by
            have hm2 := hm
            simp [hgd] at hm
            obtain ⟨v, q1, q2, q3⟩ := g6 e h1 (j + m) (by omega)
            refine ⟨v, by simp [cellAt, World.cell?, g1, Nat.add_assoc, q1], ?_⟩
            have hlo := List.all_eq_true.1 h4 _ (List.getElem_mem hm2)
            simp only [hgd, List.getElem_take, List.getElem_drop] at hlo ⊢
            exact q3.lo hlo)
          have e3 : ofCells i.agg (((gv es e).cells.drop j).take (bif i.agg then i.size else 1)) i.size = ofCells i.agg ((gv es e).cells.drop j) i.size := by
            have hf : ∀ l : List V, (l.take 1).head? = l.head? := fun l => by cases l <;> rfl
            cases i.agg with
            | true => simp only [ofCells, if_true, cond_true, List.take_take, Nat.min_self]
            | false => simp only [ofCells, Bool.false_eq_true, if_false, cond_false, hf]
          rw [e3] at k2
          exact .pure hM hE h3 (by simp [execOp, Instr.loadAt, Instr.sureAddr, Ob.sz, hax, k1]) k2
      · exact h.elim
    · rename_i cs he
      rw [he] at hx
      obtain ⟨h1, h2⟩ := h
      generalize hax : a.eval x = av at hx
      cases hx with
      | d hd =>
        cases hd with
        | ptr _ b off vs q1 q2 q3 =>
          obtain ⟨u, k1, k2⟩ := load_cells (P := P) (w := w) (Pr := Pr) (p := p) (st := st) hi (b := b) (off := off) (cs := cs.map .d) (by simpa using h1) (fun m hm => by
            simp at hm
            exact ⟨vs m, q2 m hm, by simpa using RelV.d (q3 m hm)⟩)
          rw [dOf_map h1] at k2
          exact .pure hM hE h2 (by simp [execOp, Instr.loadAt, Instr.sureAddr, hax, k1]) k2
    · exact h.elim
  · exact h.elim

end
end Go.PL

/- PlOps3 -/
namespace Go.PL
open Go

theorem Step.trans {nF : Nat} {w w1 w2 : World} {Pr Pr1 Pr2 : Pro} {p p1 p2 : Place} {os os1 os2 : List Ob} (h : Step w w1 Pr Pr1 p p1 os os1 nF) (k : Step w1 w2 Pr1 Pr2 p1 p2 os1 os2 nF) :
    Step w w2 Pr Pr2 p p2 os os2 nF := by
  refine ⟨h.stab.trans k.stab, ⟨k.frm.os.trans h.frm.os, k.frm.tape.trans h.frm.tape, k.frm.output.trans h.frm.output, Nat.le_trans h.frm.size k.frm.size, fun b hb hf => ?_⟩, fun b i hp => ?_, Nat.le_trans h.len k.len, ?_, ?_, ?_⟩
  · rw [k.frm.block b (Nat.lt_of_lt_of_le hb h.frm.size) ?_, h.frm.block b hb hf]
    intro ho
    rcases h.own b ho with h1 | h1
    · omega
    · exact hf h1
  · rcases k.prN b i hp with h1 | h1 | h1
    · exact h.prN b i h1
    · exact .inr (.inl (Nat.le_trans h.frm.size h1))
    · exact .inr (h.own b h1)
  · intro o ob' hlt h1 h2
    obtain ⟨ob, h3, h4, h5, h6, h7⟩ := k.cmp o ob' hlt h1 h2
    obtain ⟨ob0, g3, g4, g5, g6, g7⟩ := h.cmp o ob hlt h3 h4
    exact ⟨ob0, g3, g4, h5.trans g5, h6.trans g6, h7.trans g7⟩
  · intro o ob' sz n' ho h1 h1'
    obtain ⟨ob, n, h2, h2', h3⟩ := k.arr o ob' sz n' ho h1 h1'
    obtain ⟨ob0, n0, h4, h4', h5⟩ := h.arr o ob sz n ho h2 h2'
    exact ⟨ob0, n0, h4, h4', Nat.le_trans h5 h3⟩
  · intro b hb
    rcases k.own b hb with h3 | h3
    · exact .inl (Nat.le_trans h.frm.size h3)
    · exact h.own b h3

theorem Moved.trans {nF : Nat} {w w1 w2 : World} {Pr Pr1 Pr2 : Pro} {p p1 p2 : Place} {os os1 os2 : List Ob} (h : Moved nF w w1 Pr Pr1 p p1 os os1) (k : Moved nF w1 w2 Pr1 Pr2 p1 p2 os1 os2) :
    Moved nF w w2 Pr Pr2 p p2 os os2 := ⟨h.step.trans k.step, k.mem⟩

theorem freeze_get (os : List Ob) (x : Nat) {l : List Nat} (hx : x ∉ l) : (freeze os l)[x]? = os[x]? := by
  induction l with
  | nil => rfl
  | cons y l ih =>
    simp only [List.mem_cons, not_or] at hx
    have hne : ¬ y = x := fun e => hx.1 e.symm
    simp only [freeze, List.getElem?_modify, ih hx.2, if_neg hne]
    cases os[x]? <;> rfl

theorem freeze_len (os : List Ob) (l : List Nat) : (freeze os l).length = os.length := by
  induction l with
  | nil => rfl
  | cons y l ih => simp [freeze, ih]

/-- Objects are frozen, in one go. -/
theorem frozenM {nF : Nat} {w : World} {p : Place} {os : List Ob} (hnF : nF ≤ os.length) : ∀ (l : List Nat) {Pr : Pro} (_ : Mem w Pr p os),
    ∃ Pr', Moved nF w w Pr Pr' p p os (freeze os l) ∧ Stab w w Pr Pr' ∧ Cmp p p os (freeze os l) ∧ Frz Pr' p os l := by
  intro l
  induction l with
  | nil => exact fun {Pr} hM => ⟨Pr, .refl hM, .refl _ _, .refl _ _, fun o ho => absurd ho (by simp)⟩
  | cons o l ih =>
    intro Pr hM
    obtain ⟨Pr1, k1, k3, k4, k5⟩ := ih hM
    obtain ⟨Pr2, m1, m2, m3, m4⟩ := freeze1 (nF := nF) k1.mem (Nat.le_trans hnF k4.len) o
    refine ⟨Pr2, k1.trans m1, k3.trans m2, k4.trans m3, ?_⟩
    intro x hx ob hob hd
    by_cases hxl : x ∈ l
    · obtain ⟨a1, a2⟩ := k5 x hxl ob hob hd
      exact ⟨fun j hj => m2.pr _ _ (a1 j hj), fun sz es e h k c i hk => m2.pr _ _ (a2 sz es e h k c i hk)⟩
    · have hxo : x = o := by rcases List.mem_cons.1 hx with h | h; exact h; exact absurd h hxl
      subst hxo
      exact m4 x (by simp) ob (by rw [freeze_get os x hxl]; exact hob) hd

theorem setRange_len {α : Type} {cs xs : List α} {j : Nat} (h : j + xs.length ≤ cs.length) : (setRange cs j xs).length = cs.length := by
  simp [setRange]; omega

theorem setRange_get {α : Type} {cs xs : List α} {j : Nat} (h : j + xs.length ≤ cs.length) (k : Nat) : (setRange cs j xs)[k]? = if j ≤ k ∧ k < j + xs.length then xs[k - j]? else cs[k]? := by
  unfold setRange
  by_cases h1 : k < j
  · rw [if_neg (by omega), List.append_assoc, List.getElem?_append_left (by simp; omega), List.getElem?_take, if_pos h1]
  · by_cases h2 : k < j + xs.length
    · rw [if_pos ⟨by omega, h2⟩, List.append_assoc, List.getElem?_append_right (by simp; omega), List.getElem?_append_left (by simp; omega)]
      congr 1; simp; omega
    · rw [if_neg (by omega), List.getElem?_append_right (by simp; omega), List.getElem?_drop]
      congr 1; simp; omega

theorem leaf0_one {os : List Ob} {v : V} {d : D} {l : List Nat} (h : leaf0 os v = some (d, l)) (h1 : v.one = true) : d.one = true := by
  cases v with
  | d x => simp only [leaf0, Option.some.injEq, Prod.mk.injEq] at h; obtain ⟨rfl, _⟩ := h; exact h1
  | msl o off len =>
    simp only [leaf0] at h
    split at h
    · simp only [Option.some.injEq, Prod.mk.injEq] at h; obtain ⟨rfl, _⟩ := h; rfl
    · split at h
      · simp only [Option.some.injEq, Prod.mk.injEq] at h; obtain ⟨rfl, _⟩ := h; rfl
      · cases h
    · cases h
  | _ => simp [leaf0] at h

theorem leaf1_one {os : List Ob} {v : V} {d : D} {l : List Nat} (h : leaf1 os v = some (d, l)) (h1 : v.one = true) : d.one = true := by
  cases v with
  | ref o i j =>
    simp only [leaf1] at h
    split at h
    · split at h
      · simp only [Option.some.injEq, Prod.mk.injEq] at h; obtain ⟨rfl, _⟩ := h; rfl
      · cases h
    · cases h
  | agg cs => simp [V.one] at h1
  | _ => simp only [leaf1] at h; exact leaf0_one h h1

theorem mapL_one {os : List Ob} : ∀ {vs : List V} {ds : List D} {l : List Nat}, mapL (leaf1 os) vs = some (ds, l) → vs.all V.one = true → ∀ i (hi : i < ds.length), ds[i].one = true
  | [], ds, l, h, _ => by simp only [mapL, Option.some.injEq, Prod.mk.injEq] at h; obtain ⟨rfl, rfl⟩ := h; simp
  | v :: r, ds, l, h, h1 => by
    simp only [mapL] at h
    split at h
    · rename_i x a xs b h2 h3
      simp only [Option.some.injEq, Prod.mk.injEq] at h
      obtain ⟨rfl, rfl⟩ := h
      simp only [List.all_cons, Bool.and_eq_true] at h1
      intro i hi
      cases i with
      | zero => exact leaf1_one h2 h1.1
      | succ i => exact mapL_one h3 h1.2 i (by simpa using hi)
    · cases h

theorem D.one_cells {x : D} (h : x.one = true) : x.cells = [x] := by cases x <;> first | rfl | simp [D.one] at h

section
variable {P : Program} {T : Tab} [TOk T P] {nF : Nat} {w : World} {Pr : Pro} {p : Place} {st : St} {a : Act} {K : V → St → Prop}
variable {dst : Option Tmp} {type : TypeId} {pos : String} {after : Array Edge} {guard : Option (Nat × Bool)}

theorem run_storeAt {t : TypeId} {n : TypeInfo} (hn : P.info? t = some n) {g o : Nat} {et : TypeId} {cur : Array Value} {v : Value} (hg : w.heap[g]? = some (.cells cur et (0, 0)))
    (hs : v.cells.size = n.size) (hl : o + n.size ≤ cur.size) (h1 : ∀ j (_ : j < v.cells.size), ∃ u, v.cells[j]? = some u ∧ u.oneCell' = true) :
    (Instr.storeAt t (.pointer (some ⟨g, o, none⟩)) v).run P w = .ok () (w.setRow g (setRange cur.toList o v.cells.toList).toArray) := by
  have hall : ∀ u ∈ v.cells.toList, u.oneCell' = true := by
    intro u hu
    obtain ⟨j, hj, rfl⟩ := List.getElem_of_mem hu
    simp at hj
    obtain ⟨u', k1, k2⟩ := h1 j hj
    simp [hj] at k1
    simpa [k1] using k2
  have hst := run_storeCells_at P g o et v.cells.toList 0 cur w hg (by simp; omega) hall
  simp only [Nat.add_zero] at hst
  simp [Instr.storeAt, Instr.sureAddr, storeVar, sizeOf, typeInfo, hn, hs, hst, setRange]

theorem mkAgg_cells (cs : List V) : (mkAgg cs).cells = cs := by
  unfold mkAgg
  split
  · rename_i ds h; rw [allD_rel h]; rfl
  · rfl

theorem V.cells1 {v : V} (h : v.isAgg = false) : v.cells = [v] := by
  cases v with
  | d x => cases x <;> first | rfl | cases h
  | agg => cases h
  | _ => rfl

theorem V.one_agg {v : V} (h : v.one = true) : v.isAgg = false := by
  cases v with
  | d x => cases x <;> first | rfl | cases h
  | agg => cases h
  | _ => rfl

theorem setV_cells {v : V} {j : Nat} {xs : List V} (h : j + xs.length ≤ v.cells.length) (h0 : 0 < xs.length) (h1 : xs.all V.one = true) :
    (setV v j xs).cells.length = v.cells.length ∧ ∀ m, (setV v j xs).cells[m]? = if j ≤ m ∧ m < j + xs.length then xs[m - j]? else v.cells[m]? := by
  unfold setV
  cases hv : v.isAgg with
  | true =>
    rw [cond_true]
    exact ⟨setRange_len h, fun m => setRange_get h m⟩
  | false =>
    rw [cond_false]
    rw [V.cells1 hv] at h ⊢
    simp only [List.length_cons, List.length_nil] at h
    match xs, h0, h, h1 with
    | [y], _, h, h1 =>
      have hj : j = 0 := by simp at h; exact h
      subst hj
      simp only [List.all_cons, List.all_nil, Bool.and_true] at h1
      simp only [List.head?_cons, Option.getD_some, V.cells1 (V.one_agg h1), List.length_cons, List.length_nil]
      refine ⟨trivial, fun m => ?_⟩
      cases m with
      | zero => rw [if_pos (by omega)]
      | succ m => rw [if_neg (by omega)]; simp
    | a :: b :: r, _, h, _ => simp at h; omega

theorem out_store (hM : Mem w Pr p st.os) (hE : EnvR w Pr p st.os a.tmps st.env) (hnF : nF ≤ st.os.length) {t : TypeId} {ad x : Operand} (h : opK T nF st (.store t ad x) K) :
    Out nF w Pr p st a.tmps K ((execOp a.eval ⟨dst, .store t ad x, type, pos, after, guard⟩).run P w) := by
  simp only [opK] at h
  split at h
  · rename_i i hi
    obtain ⟨n, u, z, k, i1, i2, i3, i4, rfl, i6, i7, i8⟩ := ti_spec hi
    unfold storeK at h
    obtain ⟨h1, h2, h3⟩ := h
    simp only at h1 h3
    obtain ⟨k1, k2⟩ := RelV.cells (evalR hE x) h2
    have hx := evalR hE ad
    split at h3
    · rename_i o e j he
      rw [he] at hx
      generalize hax : a.eval ad = av at hx
      split at h3
      · rename_i cs ho
        obtain ⟨rfl, h4, h5⟩ := h3
        cases hx with
        | ref hol hh =>
          rename_i addr
          have e := hh _ ho (by simp)
          simp only [Nat.zero_mul, Nat.zero_add] at e
          subst e
          obtain ⟨vs, et, g1, g2, g3, g4⟩ := hM.ob o _ ho
          have hrun := run_storeAt (P := P) i1 g1 (o := j) (v := a.eval x) (by omega) (by omega) (fun m hm => by obtain ⟨u, q1, q2, _⟩ := k2 m (by omega); exact ⟨u, q1, q2⟩)
          have hl1 : j + (ev st.env x).cells.length ≤ cs.length := by omega
          obtain ⟨m, hs, hc⟩ := turn (nF := nF) (w' := w.setRow (p.bl o) (setRange vs.toList j (a.eval x).cells.toList).toArray) (ob' := .var (setRange cs j (ev st.env x).cells) false) hM hnF ho (by simp) g1
            (setRow_heap w _ vs _ et _ g1) (fun k hk => setRow_other w _ k _ hk) (by simp) rfl rfl rfl
            ⟨by simp [setRange_len hl1]; rw [setRange_len (by simp; omega)]; simp [g2], fun m hm => by
              rw [setRange_len hl1] at hm
              have q := setRange_get (cs := cs) (xs := (ev st.env x).cells) hl1 m
              have q' := setRange_get (cs := vs.toList) (xs := (a.eval x).cells.toList) (j := j) (by simp; omega) m
              simp only [List.getElem?_toArray, q']
              by_cases hr : j ≤ m ∧ m < j + (ev st.env x).cells.length
              · obtain ⟨u, r1, r2, r3⟩ := k2 (m - j) (by omega)
                rw [if_pos (by simp; omega)]
                rw [if_pos hr] at q
                refine ⟨u, by simpa using r1, r2, ?_⟩
                have e : (setRange cs j (ev st.env x).cells)[m] = (ev st.env x).cells[m - j] := by
                  apply Option.some.inj
                  rw [← List.getElem?_eq_getElem, q, List.getElem?_eq_getElem]
                rw [e]; exact r3
              · obtain ⟨u, r1, r2, r3⟩ := g3 m hm
                rw [if_neg (by simp; omega)]
                rw [if_neg hr] at q
                refine ⟨u, by simpa using r1, r2, ?_⟩
                have e : (setRange cs j (ev st.env x).cells)[m] = cs[m] := by
                  apply Option.some.inj
                  rw [← List.getElem?_eq_getElem, q, List.getElem?_eq_getElem]
                rw [e]; exact r3⟩
            (by simp [Ob.sz, setRange_len hl1]) rfl (by simp [Ob.cnt, setRange_len hl1]) (fun _ _ e => by cases e) (fun e => by simp [Ob.fzn] at e)
          refine ⟨.any, _, undef, _, _, _, h5, .inr ⟨?_, rfl⟩, ⟨m, EnvR.moved hs hc hE⟩, .any⟩
          simp [execOp, hax, hrun]
      · rename_i sz es ho
        split at h3
        · rename_i ds l hl
          obtain ⟨h4, h5, h6, h7⟩ := h3
          cases hx with
          | ref hol hh =>
            rename_i addr
            have e2 := hh _ ho (by simp)
            subst e2
            obtain ⟨Pr1, m1, s1, c1, f1⟩ := frozenM (nF := nF) hnF l hM
            have hol2 : o ∉ l := by simpa using h6
            have ho1 : (freeze st.os l)[o]? = some (.arr sz es false) := by rw [freeze_get _ _ hol2]; exact ho
            obtain ⟨vs, et, g1, g2, g3, g4, g5, g6, g7⟩ := m1.mem.ob o _ ho1
            have hgd : gd es e = es[e] := by simp [gd, h4]
            have hsz : es[e].cells.length = sz := g5 e h4
            rw [hgd, hsz] at h5
            obtain ⟨d1, d2⟩ := mapL_rel (fun h hz hr => leaf1_rel hM s1 h hz hr) hl f1
            have hroom : e * sz + sz ≤ vs.size := by
              rw [g2, ← Nat.succ_mul]; exact Nat.mul_le_mul_right _ (by omega)
            have hrun := run_storeAt (P := P) i1 g1 (o := e * sz + j) (v := a.eval x) (by omega) (by omega) (fun m hm => by obtain ⟨u, q1, q2, _⟩ := k2 m (by omega); exact ⟨u, q1, q2⟩)
            have hdl : ds.length = n.size := by omega
            have hpos : 0 < n.size := h7.1
            have hnew : (setElem es[e] j ds).cells.length = sz ∧ ∀ m, (setElem es[e] j ds).cells[m]? = if j ≤ m ∧ m < j + ds.length then ds[m - j]? else es[e].cells[m]? := by
              generalize es[e] = x0 at hsz
              have leaf : ∀ y : D, y.cells = [y] → y = x0 → (setElem x0 j ds = (ds.head?).getD (.i 0)) → (setElem x0 j ds).cells.length = sz ∧ ∀ m, (setElem x0 j ds).cells[m]? = if j ≤ m ∧ m < j + ds.length then ds[m - j]? else x0.cells[m]? := by
                intro y hy e hse
                subst e
                rw [hse]
                rw [hy] at hsz
                simp at hsz
                have hds : ds.length = 1 := by omega
                match ds, hds with
                | [d], _ =>
                  have hj0 : j = 0 := by omega
                  have hd1 : d.one = true := by
                    refine mapL_one hl h2 0 (by simp) 
                  simp [D.one_cells hd1, hy, ← hsz, hj0]
                  intro m
                  cases m <;> simp
              cases x0 with
              | agg cs =>
                simp only [D.cells] at hsz
                have hr : j + ds.length ≤ cs.length := by omega
                exact ⟨by simp [setElem, D.cells, setRange_len hr, hsz], fun m => by simp only [setElem, D.cells]; exact setRange_get hr m⟩
              | _ => exact leaf _ rfl rfl rfl
            have hlen2 : (es.set e (setElem (gd es e) j ds)).length = es.length := by simp
            obtain ⟨m, hs, hc⟩ := turn (nF := nF) (w' := w.setRow (p.bl o) (setRange vs.toList (e * sz + j) (a.eval x).cells.toList).toArray) (ob' := .arr sz (es.set e (setElem (gd es e) j ds)) false)
              m1.mem (Nat.le_trans hnF c1.len) ho1 (by simp) g1
              (setRow_heap w _ vs _ et _ g1) (fun k hk => setRow_other w _ k _ hk) (by simp) rfl rfl rfl
              ⟨by simp only [List.size_toArray]; rw [setRange_len (by simp; omega)]; simpa using g2, by simpa using g3, g4, fun m hm => by
                simp only [List.length_set] at hm
                rw [List.getElem_set]
                split
                · rw [hgd]; exact hnew.1
                · exact g5 m hm, fun m hm j' hj' => by
                simp only [List.length_set] at hm
                have q' := setRange_get (cs := vs.toList) (xs := (a.eval x).cells.toList) (j := e * sz + j) (by simp; omega) (m * sz + j')
                simp only [List.getElem?_toArray, q']
                have hcl : (es.set e (setElem (gd es e) j ds))[m].cells.length = sz := by
                  rw [List.getElem_set]; split
                  · rw [hgd]; exact hnew.1
                  · exact g5 m hm
                rw [hcl] at hj'
                by_cases hr : m = e ∧ j ≤ j' ∧ j' < j + ds.length
                · obtain ⟨rfl, r1, r2⟩ := hr
                  rw [if_pos (by simp; omega)]
                  obtain ⟨u, t1, t2, t3⟩ := k2 (j' - j) (by omega)
                  refine ⟨u, by simp; rw [show m * sz + j' - (m * sz + j) = j' - j by omega]; exact t1, t2, ?_⟩
                  have e1 : (es.set m (setElem (gd es m) j ds))[m].cells[j']? = ds[j' - j]? := by
                    simp only [List.getElem_set_self]; rw [hgd, hnew.2, if_pos ⟨r1, r2⟩]
                  rw [List.getElem?_eq_getElem (by omega), List.getElem?_eq_getElem (by omega)] at e1
                  rw [Option.some.inj e1]
                  exact (d2 (j' - j) (by omega) (by omega) u t3)
                · have hout : ¬ (e * sz + j ≤ m * sz + j' ∧ m * sz + j' < e * sz + j + (a.eval x).cells.toList.length) := by
                    rintro ⟨r1, r2⟩
                    simp at r2
                    rcases Nat.lt_trichotomy m e with r3 | r3 | r3
                    · have := Nat.mul_le_mul_right sz (show m + 1 ≤ e by omega)
                      rw [Nat.succ_mul] at this; omega
                    · subst r3; exact hr ⟨rfl, by omega, by omega⟩
                    · have := Nat.mul_le_mul_right sz (show e + 1 ≤ m by omega)
                      rw [Nat.succ_mul] at this; omega
                  rw [if_neg hout]
                  obtain ⟨u, t1, t2, t3⟩ := g6 m hm j' (by rw [g5 m hm]; exact hj')
                  refine ⟨u, by simpa using t1, t2, ?_⟩
                  have e1 : (es.set e (setElem (gd es e) j ds))[m].cells[j']? = es[m].cells[j']? := by
                    rw [List.getElem_set]
                    split
                    · rename_i hem
                      subst hem
                      rw [hgd, hnew.2, if_neg (fun q => hr ⟨rfl, q⟩)]
                    · rfl
                  rw [List.getElem?_eq_getElem (by omega), List.getElem?_eq_getElem (by rw [g5 m hm]; exact hj')] at e1
                  rw [Option.some.inj e1]
                  exact t3⟩
              rfl rfl (by simp [Ob.cnt]) (fun sz2 n2 e => ⟨es.length, by simp only [Ob.al, Option.some.injEq, Prod.mk.injEq, List.length_set] at e ⊢; exact ⟨e.1, trivial⟩, by simp only [Ob.al, Option.some.injEq, Prod.mk.injEq, List.length_set] at e; omega⟩) (fun e => by simp [Ob.fzn] at e)
            refine ⟨.any, _, undef, _, _, _, h7.2, .inr ⟨?_, rfl⟩, ⟨m1.trans m, EnvR.moved (s1.trans hs) (c1.trans hc) hE⟩, .any⟩
            simp [execOp, hax, hrun, Ob.sz]
        · exact h3.elim
      · rename_i sz es ho
        obtain ⟨h4, h5, h6, h7, h8⟩ := h3
        cases hx with
        | ref hol hh =>
          rename_i addr
          have e2 := hh _ ho (by simp)
          subst e2
          obtain ⟨vs, et, g1, g2, g3, g4, g5, g6, g7⟩ := hM.ob o _ ho
          have hgd : gv es e = es[e] := by simp [gv, h5]
          have hsz : es[e].cells.length = sz := g5 e h5
          rw [hgd, hsz] at h6
          have hroom : e * sz + sz ≤ vs.size := by
            rw [g2, ← Nat.succ_mul]; exact Nat.mul_le_mul_right _ (by omega)
          have hrun := run_storeAt (P := P) i1 g1 (o := e * sz + j) (v := a.eval x) (by omega) (by omega) (fun m hm => by obtain ⟨u, q1, q2, _⟩ := k2 m (by omega); exact ⟨u, q1, q2⟩)
          obtain ⟨n1, n2⟩ := setV_cells (v := es[e]) (j := j) (xs := (ev st.env x).cells) (by omega) (by omega) h2
          have hcl : ∀ m (hm : m < (es.set e (setV (gv es e) j (ev st.env x).cells)).length), (es.set e (setV (gv es e) j (ev st.env x).cells))[m].cells.length = sz := fun m hm => by
            simp only [List.length_set] at hm
            rw [List.getElem_set]; split
            · rw [hgd, n1, hsz]
            · exact g5 m hm
          obtain ⟨m, hs, hc⟩ := turnT (nF := nF) (w' := w.setRow (p.bl o) (setRange vs.toList (e * sz + j) (a.eval x).cells.toList).toArray) (es' := es.set e (setV (gv es e) j (ev st.env x).cells))
            (vs' := (setRange vs.toList (e * sz + j) (a.eval x).cells.toList).toArray) hM hnF ho g1
            (setRow_heap w _ vs _ et _ g1) (fun k hk => setRow_other w _ k _ hk) (by simp) rfl rfl rfl (by simp)
            (by simp only [List.size_toArray]; rw [setRange_len (by simp; omega)]; simpa using g2) hcl (fun m hm j' hj' => by
              have hj0 := hj'
              rw [hcl m hm] at hj'
              have hm2 := hm
              simp only [List.length_set] at hm
              have q' := setRange_get (cs := vs.toList) (xs := (a.eval x).cells.toList) (j := e * sz + j) (by simp; omega) (m * sz + j')
              simp only [List.getElem?_toArray, q']
              by_cases hr : m = e ∧ j ≤ j' ∧ j' < j + (ev st.env x).cells.length
              · obtain ⟨rfl, r1, r2⟩ := hr
                rw [if_pos (by simp; omega)]
                obtain ⟨u, t1, t2, t3⟩ := k2 (j' - j) (by omega)
                refine ⟨u, by simp; rw [show m * sz + j' - (m * sz + j) = j' - j by omega]; exact t1, t2, ?_⟩
                have e1 : (es.set m (setV (gv es m) j (ev st.env x).cells))[m].cells[j']? = (ev st.env x).cells[j' - j]? := by
                  simp only [List.getElem_set_self]; rw [hgd, n2, if_pos ⟨r1, r2⟩]
                rw [List.getElem?_eq_getElem hj0, List.getElem?_eq_getElem (by omega)] at e1
                rw [Option.some.inj e1]
                exact RelC.of_lo (w' := w) (List.all_eq_true.1 h4 _ (List.getElem_mem _)) t3
              · have hout : ¬ (e * sz + j ≤ m * sz + j' ∧ m * sz + j' < e * sz + j + (a.eval x).cells.toList.length) := by
                  rintro ⟨r1, r2⟩
                  simp at r2
                  rcases Nat.lt_trichotomy m e with r3 | r3 | r3
                  · have := Nat.mul_le_mul_right sz (show m + 1 ≤ e by omega)
                    rw [Nat.succ_mul] at this; omega
                  · subst r3; exact hr ⟨rfl, by omega, by omega⟩
                  · have := Nat.mul_le_mul_right sz (show e + 1 ≤ m by omega)
                    rw [Nat.succ_mul] at this; omega
                rw [if_neg hout]
                obtain ⟨u, t1, t2, t3⟩ := g6 m hm j' (by rw [g5 m hm]; exact hj')
                refine ⟨u, by simpa using t1, t2, ?_⟩
                have e1 : (es.set e (setV (gv es e) j (ev st.env x).cells))[m].cells[j']? = es[m].cells[j']? := by
                  rw [List.getElem_set]
                  split
                  · rename_i hem
                    subst hem
                    rw [hgd, n2, if_neg (fun q => hr ⟨rfl, q⟩)]
                  · rfl
                rw [List.getElem?_eq_getElem hj0, List.getElem?_eq_getElem (by rw [g5 m hm]; exact hj')] at e1
                rw [Option.some.inj e1]
                exact t3)
          refine ⟨.any, _, undef, _, _, _, h8, .inr ⟨?_, rfl⟩, ⟨m, EnvR.moved hs hc hE⟩, .any⟩
          simp [execOp, hax, hrun, Ob.sz]
      · exact h3.elim
    · exact h3.elim
  · exact h.elim

end
end Go.PL
