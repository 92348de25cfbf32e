/- The abstract machine: values, blocks, the relation to the model's world. -/
import Derived.CallsIn
import Derived.RangeFuncIn
import Derived.RangeFuncRecord
import Derived.Below
import Derived.Laws.World
import Derived.Laws.NewFold
set_option linter.unusedSectionVars false
set_option linter.unusedSimpArgs false
set_option linter.unusedVariables false
/- The abstract machine: values, blocks, the relation to the model's world. -/
namespace Go.Vm
open Go.RowKit (Below)

/-- A map from numbers to α, as a tree by the number's digits. -/
inductive Tr (α : Type) where
  | nil
  | node (v : Option α) (l r : Tr α)
  deriving Inhabited

def Tr.get {α : Type} : Tr α → Nat → Option α
  | .nil, _ => none
  | .node v _ _, 0 => v
  | .node _ l r, n + 1 => if n % 2 = 0 then l.get (n / 2) else r.get (n / 2)

def Tr.setF {α : Type} : Nat → Tr α → Nat → α → Tr α
  | 0, t, _, _ => t
  | _ + 1, .nil, 0, o => .node (some o) .nil .nil
  | f + 1, .nil, n + 1, o => if n % 2 = 0 then .node none (Tr.setF f .nil (n / 2) o) .nil else .node none .nil (Tr.setF f .nil (n / 2) o)
  | _ + 1, .node _ l r, 0, o => .node (some o) l r
  | f + 1, .node v l r, n + 1, o => if n % 2 = 0 then .node v (Tr.setF f l (n / 2) o) r else .node v l (Tr.setF f r (n / 2) o)

def Tr.set {α : Type} (t : Tr α) (n : Nat) (o : α) : Tr α := Tr.setF (n + 1) t n o

theorem Tr.get_setF {α : Type} (o : α) : ∀ (f : Nat) (t : Tr α) (n : Nat), n < f → ∀ m, (Tr.setF f t n o).get m = if m = n then some o else t.get m
  | 0, _, _, h, _ => absurd h (Nat.not_lt_zero _)
  | f + 1, .nil, 0, _, m => by
    cases m with
    | zero => simp [Tr.setF, Tr.get]
    | succ m => simp [Tr.setF, Tr.get]
  | f + 1, .nil, n + 1, h, m => by
    have ih := Tr.get_setF o f .nil (n / 2) (by omega)
    simp only [Tr.setF]
    cases m with
    | zero => split <;> simp [Tr.get]
    | succ m =>
      by_cases hn : n % 2 = 0
      · simp only [hn, if_true, Tr.get]
        by_cases hm : m % 2 = 0
        · simp only [hm, if_true, ih]
          simp only [Tr.get]
          by_cases e : m = n
          · subst e; simp
          · rw [if_neg (by omega), if_neg (by omega)]
        · rw [if_neg hm, if_neg (by rintro e; apply hm; omega)]
      · simp only [hn, if_false, Tr.get]
        by_cases hm : m % 2 = 0
        · rw [if_pos hm, if_neg (by rintro e; apply hn; omega)]
        · simp only [hm, if_false, ih]
          simp only [Tr.get]
          by_cases e : m = n
          · subst e; simp
          · rw [if_neg (by omega), if_neg (by omega)]
  | f + 1, .node v l r, 0, _, m => by
    cases m with
    | zero => simp [Tr.setF, Tr.get]
    | succ m => simp [Tr.setF, Tr.get]
  | f + 1, .node v l r, n + 1, h, m => by
    have ihl := Tr.get_setF o f l (n / 2) (by omega)
    have ihr := Tr.get_setF o f r (n / 2) (by omega)
    simp only [Tr.setF]
    cases m with
    | zero => split <;> simp [Tr.get]
    | succ m =>
      by_cases hn : n % 2 = 0
      · simp only [hn, if_true, Tr.get]
        by_cases hm : m % 2 = 0
        · simp only [hm, if_true, ihl]
          by_cases e : m = n
          · subst e; simp
          · rw [if_neg (by omega), if_neg (by omega)]
        · rw [if_neg hm, if_neg hm, if_neg (by rintro e; apply hm; omega)]
      · simp only [hn, if_false, Tr.get]
        by_cases hm : m % 2 = 0
        · rw [if_pos hm, if_pos hm, if_neg (by rintro e; apply hn; omega)]
        · simp only [hm, if_false, ihr]
          by_cases e : m = n
          · subst e; simp
          · rw [if_neg (by omega), if_neg (by omega)]

theorem Tr.get_set {α : Type} (t : Tr α) (n : Nat) (o : α) (m : Nat) : (t.set n o).get m = if m = n then some o else t.get m :=
  Tr.get_setF o (n + 1) t n (Nat.lt_succ_self n) m
@[simp] theorem Tr.get_set_same {α : Type} (t : Tr α) (n : Nat) (o : α) : (t.set n o).get n = some o := by simp [Tr.get_set]
theorem Tr.get_set_ne {α : Type} (t : Tr α) {n m : Nat} (o : α) (h : m ≠ n) : (t.set n o).get m = t.get m := by simp [Tr.get_set, h]

/-- A frame: what is known of the temporaries. -/
abbrev Fr := Tr Value

/-- An entry of a map. -/
structure Ent where
  key : Value
  val : Value
  born : Nat
  deriving Inhabited

/-- What lies in a block. -/
inductive Blk where
  | cells (own : Bool) (cs : List Value)
  | map (es : List Ent) (clock : Nat)
  | iter (m : Nat) (since : Nat) (seen : List Nat) (last : Nat)
  | defers
  | loop (st : LoopState) (pend : Option Code) (fr : Fr) (N : Nat) (ps : Array Tmp) (assign body : Code)
  | dead
  deriving Inhabited

def Blk.live : Blk → Bool
  | .dead => false
  | _ => true
def Blk.own : Blk → Bool
  | .cells o _ => o
  | .dead => false
  | _ => true

structure St where
  next : Nat
  heap : Tr Blk
  deriving Inhabited

def St.get (s : St) (b : Nat) : Option Blk := s.heap.get b
def St.set (s : St) (b : Nat) (o : Blk) : St := { s with heap := s.heap.set b o }
def St.push (s : St) (o : Blk) : St := { next := s.next + 1, heap := s.heap.set s.next o }

@[simp] theorem St.next_set (s : St) (b : Nat) (o : Blk) : (s.set b o).next = s.next := rfl
@[simp] theorem St.next_push (s : St) (o : Blk) : (s.push o).next = s.next + 1 := rfl
theorem St.get_set (s : St) (b : Nat) (o : Blk) (m : Nat) : (s.set b o).get m = if m = b then some o else s.get m := Tr.get_set _ _ _ _
theorem St.get_push (s : St) (o : Blk) (m : Nat) : (s.push o).get m = if m = s.next then some o else s.get m := Tr.get_set _ _ _ _
@[simp] theorem St.get_set_same (s : St) (b : Nat) (o : Blk) : (s.set b o).get b = some o := by simp [St.get_set]
@[simp] theorem St.get_push_same (s : St) (o : Blk) : (s.push o).get s.next = some o := by simp [St.get_push]
theorem St.get_set_ne (s : St) {b m : Nat} (o : Blk) (h : m ≠ b) : (s.set b o).get m = s.get m := by simp [St.get_set, h]
theorem St.get_push_ne (s : St) {m : Nat} (o : Blk) (h : m ≠ s.next) : (s.push o).get m = s.get m := by simp [St.get_push, h]

/-- Where a block of ours lies in the model's heap: its block, how far in, and that block's size. -/
structure Pl where
  B : Nat
  d : Nat
  Z : Nat
abbrev Emb := Nat → Option Pl

def Emb.le (ι κ : Emb) : Prop := ∀ b p, ι b = some p → κ b = some p
theorem Emb.le_refl (ι : Emb) : ι.le ι := fun _ _ h => h
theorem Emb.le_trans {ι κ μ : Emb} (h : ι.le κ) (k : κ.le μ) : ι.le μ := fun b p e => k b p (h b p e)

/-- The relation of values. In a slice of ours the third number is twice the cells of an element, and one more where the capacity is just the length. -/
inductive VRel (ι : Emb) : Value → Value → Prop
  | bool (b : Bool) : VRel ι (.bool b) (.bool b)
  | int (k : IntKind) (n : Int) : VRel ι (.int k n) (.int k n)
  | string (s : ByteArray) : VRel ι (.string s) (.string s)
  | ptrNil : VRel ι (.pointer none) (.pointer none)
  | ptr {b o : Nat} {p : Pl} (h : ι b = some p) : VRel ι (.pointer (some ⟨b, o, none⟩)) (.pointer (some ⟨p.B, p.d + o, none⟩))
  | sliceNil (c : Nat) : VRel ι (.slice none 0 c) (.slice none 0 0)
  | slice {b o n c C o' : Nat} {p : Pl} (h : ι b = some p) (hn : n ≤ C) (hZ : o' + C * (c / 2) ≤ p.Z) (hf : c % 2 = 1 → C = n) (ho : 0 < n → o' = p.d + o) :
      VRel ι (.slice (some ⟨b, o, none⟩) n c) (.slice (some ⟨p.B, o', none⟩) n C)
  | mapNil : VRel ι (.map none) (.map none)
  | map {b : Nat} {p : Pl} (h : ι b = some p) : VRel ι (.map (some b)) (.map (some p.B))
  | nilFunc : VRel ι .nilFunc .nilFunc
  | func {f : FuncId} {fi fi' ca ca' : Array Value} (h1 : fi.size = fi'.size) (h2 : ∀ (i : Nat) (v v' : Value), fi[i]? = some v → fi'[i]? = some v' → VRel ι v v')
      (h3 : ca.size = ca'.size) (h4 : ∀ (i : Nat) (v v' : Value), ca[i]? = some v → ca'[i]? = some v' → VRel ι v v') : VRel ι (.func (.func f) fi ca) (.func (.func f) fi' ca')
  | yield {b : Nat} {p : Pl} (h : ι b = some p) : VRel ι (.func (.yield b) #[] #[]) (.func (.yield p.B) #[] #[])
  | nilIface : VRel ι .nilIface .nilIface
  | agg {cs cs' : Array Value} (h1 : cs.size = cs'.size) (h2 : ∀ (i : Nat) (v v' : Value), cs[i]? = some v → cs'[i]? = some v' → VRel ι v v') : VRel ι (.agg cs) (.agg cs')
  | tuple {cs cs' : Array Value} (h1 : cs.size = cs'.size) (h2 : ∀ (i : Nat) (v v' : Value), cs[i]? = some v → cs'[i]? = some v' → VRel ι v v') : VRel ι (.tuple cs) (.tuple cs')

theorem VRel.mono {ι κ : Emb} (hle : ι.le κ) {v v' : Value} (h : VRel ι v v') : VRel κ v v' := by
  induction h with
  | bool b => exact .bool b
  | int k n => exact .int k n
  | string s => exact .string s
  | ptrNil => exact .ptrNil
  | ptr h => exact .ptr (hle _ _ h)
  | sliceNil c => exact .sliceNil c
  | slice h hn hZ hf ho => exact .slice (hle _ _ h) hn hZ hf ho
  | mapNil => exact .mapNil
  | map h => exact .map (hle _ _ h)
  | nilFunc => exact .nilFunc
  | func h1 _ h3 _ i1 i2 => exact .func h1 i1 h3 i2
  | yield h => exact .yield (hle _ _ h)
  | nilIface => exact .nilIface
  | agg h1 _ i1 => exact .agg h1 i1
  | tuple h1 _ i1 => exact .tuple h1 i1

/-- Lists and arrays of values, place by place. -/
def Rels (ι : Emb) (xs ys : List Value) : Prop := xs.length = ys.length ∧ ∀ (i : Nat) (v v' : Value), xs[i]? = some v → ys[i]? = some v' → VRel ι v v'
theorem Rels.mono {ι κ : Emb} (hle : ι.le κ) {xs ys : List Value} (h : Rels ι xs ys) : Rels κ xs ys := ⟨h.1, fun i v v' e e' => (h.2 i v v' e e').mono hle⟩
theorem Rels.nil (ι : Emb) : Rels ι [] [] := ⟨rfl, fun i v v' h => by simp at h⟩
theorem Rels.cons {ι : Emb} {x y : Value} {xs ys : List Value} (h : VRel ι x y) (hs : Rels ι xs ys) : Rels ι (x :: xs) (y :: ys) :=
  ⟨by simp [hs.1], fun i v v' e e' => by
    cases i with
    | zero => simp at e e'; subst e e'; exact h
    | succ i => simp at e e'; exact hs.2 i v v' e e'⟩
theorem Rels.append {ι : Emb} {xs ys xs' ys' : List Value} (h : Rels ι xs ys) (h' : Rels ι xs' ys') : Rels ι (xs ++ xs') (ys ++ ys') := by
  refine ⟨by simp [h.1, h'.1], fun i v v' e e' => ?_⟩
  rcases Nat.lt_or_ge i xs.length with hi | hi
  · rw [List.getElem?_append_left hi] at e
    rw [List.getElem?_append_left (by rw [← h.1]; exact hi)] at e'
    exact h.2 i v v' e e'
  · rw [List.getElem?_append_right hi] at e
    rw [List.getElem?_append_right (by rw [← h.1]; exact hi), ← h.1] at e'
    exact h'.2 _ v v' e e'
theorem Rels.get {ι : Emb} {xs ys : List Value} (h : Rels ι xs ys) {i : Nat} {v : Value} (e : xs[i]? = some v) : ∃ v', ys[i]? = some v' ∧ VRel ι v v' := by
  have hi : i < ys.length := by rw [← h.1]; exact (List.getElem?_eq_some_iff.1 e).1
  exact ⟨ys[i], List.getElem?_eq_getElem hi, h.2 i v _ e (List.getElem?_eq_getElem hi)⟩

/-- A row of cells of the model holds ours from place d on. -/
def CRel (ι : Emb) (cs : List Value) (mc : Array Value) (d : Nat) : Prop := ∀ (i : Nat) (v : Value), cs[i]? = some v → ∃ v', mc[d + i]? = some v' ∧ VRel ι v v'

def LRel (ι : Emb) (fr : Fr) (N : Nat) (tmps : Array Value) : Prop := tmps.size = N ∧ ∀ t v, fr.get t = some v → ∃ v', tmps[t]? = some v' ∧ VRel ι v v'

/-- The relation of what lies in a block. -/
def BRel (ι : Emb) : Blk → Obj → Pl → Prop
  | .cells own cs, o, p => ∃ mc ty fz, o = .cells mc ty fz ∧ mc.size = p.Z ∧ CRel ι cs mc p.d ∧ (own = true → fz = (0, 0))
  | .map es clock, o, _ => ∃ mes, o = .map mes clock ∧ es.length = mes.size ∧ ∀ (i : Nat) (e : Ent) (e' : MapEntry), es[i]? = some e → mes[i]? = some e' → VRel ι e.key e'.key ∧ VRel ι e.val e'.val ∧ e.born = e'.born
  | .iter m since seen last, o, p => ∃ pm, ι m = some pm ∧ o = .mapIter (some pm.B) since seen.toArray last ∧ p.d = 0
  | .defers, o, _ => o = .deferred (some [])
  | .loop st pend fr N ps assign body, o, _ => ∃ fn tmps df, o = .loop { state := st, pending := pend, fn, tmps, params := ps, assign, body, defers := df } ∧ LRel ι fr N tmps
  | .dead, _, _ => True

theorem CRel.mono {ι κ : Emb} (hle : ι.le κ) {cs : List Value} {mc : Array Value} {d : Nat} (h : CRel ι cs mc d) : CRel κ cs mc d :=
  fun i v e => let ⟨v', h1, h2⟩ := h i v e; ⟨v', h1, h2.mono hle⟩
theorem LRel.mono {ι κ : Emb} (hle : ι.le κ) {fr : Fr} {N : Nat} {tmps : Array Value} (h : LRel ι fr N tmps) : LRel κ fr N tmps :=
  ⟨h.1, fun t v e => let ⟨v', h1, h2⟩ := h.2 t v e; ⟨v', h1, h2.mono hle⟩⟩
theorem BRel.mono {ι κ : Emb} (hle : ι.le κ) {b : Blk} {o : Obj} {p : Pl} (h : BRel ι b o p) : BRel κ b o p := by
  cases b with
  | cells own cs => obtain ⟨mc, ty, fz, h1, h2, h3, h4⟩ := h; exact ⟨mc, ty, fz, h1, h2, h3.mono hle, h4⟩
  | map es clock => obtain ⟨mes, h1, h2, h3⟩ := h; exact ⟨mes, h1, h2, fun i e e' he he' => let ⟨a, b, c⟩ := h3 i e e' he he'; ⟨a.mono hle, b.mono hle, c⟩⟩
  | iter m since seen last => obtain ⟨pm, h1, h2⟩ := h; exact ⟨pm, hle _ _ h1, h2⟩
  | defers => exact h
  | loop st pend fr N ps assign body => obtain ⟨fn, tmps, df, h1, h2⟩ := h; exact ⟨fn, tmps, df, h1, h2.mono hle⟩
  | dead => exact h

/-- What is known of the world that all began in (below 'base'): the package-level tables. -/
class Laid where
  says : Nat → World → Prop
  mono : ∀ {base : Nat} {w0 w : World}, says base w0 → Below base w0 w → base ≤ w.heap.size → says w.heap.size w

variable [Laid]

/-- The state of ours is the world's. From 'base' on lies what the calls have made; below it, all is as in w0. -/
structure Good (ι : Emb) (s : St) (w : World) (base : Nat) (w0 : World) : Prop where
  below : Below base w0 w
  le : base ≤ w.heap.size
  fresh : ∀ b, s.next ≤ b → ι b = none ∧ s.get b = none
  blk : ∀ b o, s.get b = some o → o.live = true → ∃ p ob, ι b = some p ∧ w.heap[p.B]? = some ob ∧ BRel ι o ob p ∧ (o.own = true → base ≤ p.B)
  inj : ∀ b b' o o' p p', s.get b = some o → s.get b' = some o' → o.own = true → o'.live = true → b ≠ b' → ι b = some p → ι b' = some p' → p.B ≠ p'.B
  /- Whatever has a place, has it within the heap. -/
  dom : ∀ b p, ι b = some p → p.B < w.heap.size
  laid : Laid.says base w0

theorem Blk.live_of_own {o : Blk} (h : o.own = true) : o.live = true := by cases o <;> simp_all [Blk.own, Blk.live]

theorem Good.drew {ι : Emb} {s : St} {w : World} {base : Nat} {w0 : World} (g : Good ι s w base w0) : Good ι s w.drew base w0 :=
  ⟨g.below.drew, g.le, g.fresh, g.blk, g.inj, g.dom, g.laid⟩

theorem Good.drawn {ι : Emb} {s : St} {w : World} {base : Nat} {w0 : World} (g : Good ι s w base w0) (n : Nat) : Good ι s { w with drawn := n } base w0 :=
  ⟨⟨g.below.os, g.below.tape, g.below.output, g.below.size, g.below.block⟩, g.le, g.fresh, g.blk, g.inj, g.dom, g.laid⟩

/-- A new block on both sides. -/
theorem Good.push {ι : Emb} {s : St} {w : World} {base : Nat} {w0 : World} (g : Good ι s w base w0) {o : Blk} {ob : Obj} {Z : Nat}
    (h : BRel (fun b => if b = s.next then some ⟨w.heap.size, 0, Z⟩ else ι b) o ob ⟨w.heap.size, 0, Z⟩) :
    ∃ κ : Emb, ι.le κ ∧ κ s.next = some ⟨w.heap.size, 0, Z⟩ ∧ Good κ (s.push o) (w.alloc ob) base w0 := by
  have hle : ι.le (fun b => if b = s.next then some ⟨w.heap.size, 0, Z⟩ else ι b) := fun b p e => by
    have hb : b ≠ s.next := fun hb => by have := (g.fresh b (by omega)).1; rw [this] at e; cases e
    simp [hb, e]
  refine ⟨_, hle, by simp, ?_⟩
  refine ⟨g.below.alloc g.le _, by simp; have := g.le; omega, fun b hb => ?_, fun b o' hb hl => ?_, ?_, fun b p e => ?_, g.laid⟩
  · simp at hb
    exact ⟨by rw [if_neg (by omega)]; exact (g.fresh b (by omega)).1, by rw [St.get_push_ne _ _ (by omega)]; exact (g.fresh b (by omega)).2⟩
  · rw [St.get_push] at hb
    by_cases hbn : b = s.next
    · rw [if_pos hbn] at hb; cases hb
      exact ⟨⟨w.heap.size, 0, Z⟩, ob, by simp [hbn], World.alloc_heap_new _ _, h, fun _ => g.le⟩
    · rw [if_neg hbn] at hb
      obtain ⟨p, ob', h1, h2, h3, h4⟩ := g.blk b o' hb hl
      exact ⟨p, ob', hle _ _ h1, by rw [Below.heap_alloc _ _ _ (Array.getElem?_eq_some_iff.1 h2).1]; exact h2, h3.mono hle, h4⟩
  · intro b b' o1 o2 p p' hb hb' ho1 ho2 hne hp hp'
    rw [St.get_push] at hb hb'
    by_cases h1 : b = s.next <;> by_cases h2 : b' = s.next
    · omega
    · rw [if_pos h1] at hp; rw [if_neg h2] at hp'; cases hp
      have := g.dom b' p' hp'
      simp; omega
    · rw [if_neg h1] at hp; rw [if_pos h2] at hp'; cases hp'
      have := g.dom b p hp
      simp; omega
    · rw [if_neg h1] at hb hp; rw [if_neg h2] at hb' hp'
      exact g.inj b b' o1 o2 p p' hb hb' ho1 ho2 hne hp hp'
  · by_cases hbn : b = s.next
    · simp only [hbn, if_true] at e; cases e; simp
    · simp only [hbn, if_false] at e; have := g.dom b p e; simp; omega

/-- A block of the model's own alone (we keep no book of it). -/
theorem Good.allocOnly {ι : Emb} {s : St} {w : World} {base : Nat} {w0 : World} (g : Good ι s w base w0) (ob : Obj) : Good ι s (w.alloc ob) base w0 :=
  ⟨g.below.alloc g.le _, by simp; have := g.le; omega, g.fresh,
   fun b o hb hl => let ⟨p, ob', h1, h2, h3, h4⟩ := g.blk b o hb hl; ⟨p, ob', h1, by rw [Below.heap_alloc _ _ _ (Array.getElem?_eq_some_iff.1 h2).1]; exact h2, h3, h4⟩,
   g.inj, fun b p e => by have := g.dom b p e; simp; omega, g.laid⟩

/-- The block of one of ours becomes another object, on both sides. -/
theorem Good.change {ι : Emb} {s : St} {w w' : World} {base : Nat} {w0 : World} (g : Good ι s w base w0) {b : Nat} {o o' : Blk} {p : Pl} {ob' : Obj} (hb : s.get b = some o) (ho : o.own = true) (hp : ι b = some p)
    (ho' : o'.own = true ∨ o' = .dead) (hw : w'.heap[p.B]? = some ob') (hother : ∀ k, k ≠ p.B → w'.heap[k]? = w.heap[k]?) (hsz : w'.heap.size = w.heap.size) (hos : w'.os = w.os) (htape : w'.tape = w.tape) (hout : w'.output = w.output)
    (h : BRel ι o' ob' p) : Good ι (s.set b o') w' base w0 := by
  obtain ⟨p1, ob1, e1, e2, e3, e4⟩ := g.blk b o hb (Blk.live_of_own ho)
  rw [hp] at e1; cases e1
  have hbase := e4 ho
  refine ⟨?_, by rw [hsz]; exact g.le, fun b' hb' => ?_, fun b' o2 hb' hl => ?_, ?_, fun b' p' e => by rw [hsz]; exact g.dom b' p' e, g.laid⟩
  · exact g.below.trans ⟨hos, htape, hout, by omega, fun k hk => hother k (by omega)⟩
  · have hne : b' ≠ b := fun e => by have := (g.fresh b' hb').2; rw [e, hb] at this; cases this
    exact ⟨(g.fresh b' hb').1, by rw [St.get_set_ne _ _ hne]; exact (g.fresh b' hb').2⟩
  · rw [St.get_set] at hb'
    by_cases e : b' = b
    · subst e
      rw [if_pos rfl] at hb'; cases hb'
      exact ⟨p, ob', hp, hw, h, fun _ => hbase⟩
    · rw [if_neg e] at hb'
      obtain ⟨p', ob2, f1, f2, f3, f4⟩ := g.blk b' o2 hb' hl
      have hne := g.inj b b' o o2 p p' hb hb' ho hl (Ne.symm e) hp f1
      exact ⟨p', ob2, f1, by rw [hother _ (Ne.symm hne)]; exact f2, f3, f4⟩
  · intro b1 b2 o1 o2 p1 p2 h1 h2 h3 h4 h5 h6 h7
    rw [St.get_set] at h1 h2
    by_cases e1 : b1 = b <;> by_cases e2 : b2 = b
    · omega
    · rw [if_neg e2] at h2
      subst e1
      exact g.inj b1 b2 o o2 p1 p2 hb h2 ho h4 h5 h6 h7
    · rw [if_neg e1] at h1
      subst e2
      exact g.inj b1 b2 o1 o p1 p2 h1 hb h3 (Blk.live_of_own ho) h5 h6 h7
    · rw [if_neg e1] at h1; rw [if_neg e2] at h2
      exact g.inj b1 b2 o1 o2 p1 p2 h1 h2 h3 h4 h5 h6 h7

end Go.Vm
