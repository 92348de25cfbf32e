/- States that grow: contracts of functions that lay blocks of their own. -/
import Derived.Test.YtjandhdjjbfgcaaDoorV22
set_option linter.unusedSectionVars false
set_option linter.unusedSimpArgs false
set_option linter.unusedVariables false
/- States that grow: contracts of functions that lay blocks of their own. -/
namespace Go.Vm
variable [Laid]

def St.WF (s : St) : Prop := ∀ b, s.next ≤ b → s.get b = none

theorem St.WF.push {s : St} (h : s.WF) (o : Blk) : (s.push o).WF := fun b hb => by
  simp at hb
  rw [St.get_push_ne _ _ (by omega)]; exact h b (by omega)
theorem St.WF.set {s : St} (h : s.WF) {b : Nat} (o : Blk) (hb : b < s.next) : (s.set b o).WF := fun b' hb' => by
  simp at hb'
  rw [St.get_set_ne _ _ (by omega)]; exact h b' hb'

/-- What lay there, lies there; new blocks may have come. -/
structure Ext (s t : St) : Prop where
  next : s.next ≤ t.next
  get : ∀ b, b < s.next → t.get b = s.get b
  wf : t.WF

theorem Ext.refl {s : St} (h : s.WF) : Ext s s := ⟨Nat.le_refl _, fun _ _ => rfl, h⟩
theorem Ext.trans {s t u : St} (h : Ext s t) (k : Ext t u) : Ext s u := ⟨Nat.le_trans h.next k.next, fun b hb => (k.get b (Nat.lt_of_lt_of_le hb h.next)).trans (h.get b hb), k.wf⟩
theorem Ext.push {s t : St} (h : Ext s t) (o : Blk) : Ext s (t.push o) :=
  ⟨by simp; have := h.next; omega, fun b hb => by rw [St.get_push_ne _ _ (by have := h.next; omega)]; exact h.get b hb, h.wf.push o⟩
theorem Ext.set {s t : St} (h : Ext s t) {b : Nat} (o : Blk) (h1 : s.next ≤ b) (h2 : b < t.next) : Ext s (t.set b o) :=
  ⟨h.next, fun b' hb => by rw [St.get_set_ne _ _ (by omega)]; exact h.get b' hb, h.wf.set o h2⟩
/-- What is there, has its number below the next one. -/
theorem St.WF.lt {s : St} (h : s.WF) {b : Nat} {o : Blk} (e : s.get b = some o) : b < s.next := by
  rcases Nat.lt_or_ge b s.next with hb | hb
  · exact hb
  · rw [h b hb] at e; cases e
theorem Ext.old {s t : St} (h : Ext s t) (hs : s.WF) {b : Nat} {o : Blk} (e : s.get b = some o) : t.get b = some o := by
  rw [h.get b (hs.lt e)]; exact e
theorem Ext.load1 {s t : St} (h : Ext s t) (hs : s.WF) {b o : Nat} {v : Value} (e : load1 s b o = some v) : Vm.load1 t b o = some v := by
  unfold Vm.load1 at *
  cases hb : s.get b with
  | none => rw [hb] at e; cases e
  | some blk => rw [hb] at e; rw [h.old hs hb]; exact e
theorem Ext.loadN {s t : St} (h : Ext s t) (hs : s.WF) {b o n : Nat} {vs : List Value} (e : loadN s b o n = some vs) : Vm.loadN t b o n = some vs := by
  unfold Vm.loadN at *
  cases hb : s.get b with
  | none => rw [hb] at e; cases e
  | some blk => rw [hb] at e; rw [h.old hs hb]; exact e

/-- Of a call's state it may be taken that it is well made. -/
theorem VCalls.wf {P : Program} {f : FuncId} {args : List Value} {s : St} {Q : Value → St → Prop} (h1 : ∀ (args' : Array Value) (w : World), (callFunc f args').run P w = .ok (.enter f args') w) (h : s.WF → VCalls P f args s Q) : VCalls P f args s Q :=
  ⟨h1, fun ι base w0 w args' g hr => (h fun b hb => (g.fresh b hb).2).2 ι base w0 w args' g hr⟩

/-- A resolved function's contract, out of its run. -/
theorem FnOK.calls {P : Program} (hm : P.follows .mixedOrders = true) {f : FuncId} {vf : VFn} (hf : FnOK P f vf) {args : List Value} {s : St} {Q : Value → St → Prop} (h : s.WF → vf.run P args s Q) : VCalls P f args s Q := by
  obtain ⟨⟨fn, h1, h2⟩, h3⟩ := hf
  exact VCalls.wf h3 fun hw => fn_sound hm h1 h2 h3 (h hw)

/-! ### Reads and writes at a block that is known -/
theorem load1_own {s : St} {b o : Nat} {own : Bool} {cs : List Value} (h : s.get b = some (.cells own cs)) : load1 s b o = cs[o]? := by
  unfold load1; rw [h]
theorem loadN_own {s : St} {b o n : Nat} {own : Bool} {cs : List Value} (h : s.get b = some (.cells own cs)) (hn : o + n ≤ cs.length) : loadN s b o n = some ((cs.drop o).take n) := by
  unfold loadN; rw [h]; simp only [if_pos hn]
theorem storeN_own {s : St} {b o : Nat} {cs vs : List Value} (h : s.get b = some (.cells true cs)) (hn : o + vs.length ≤ cs.length) (ho : oneCells vs = true) : storeN s b o vs = some (s.set b (.cells true (setRange cs o vs))) := by
  unfold storeN; rw [h]; simp only [if_pos (And.intro hn ho)]
theorem loadN_two {s : St} {b o : Nat} {x y : Value} (h1 : load1 s b o = some x) (h2 : load1 s b (o + 1) = some y) : loadN s b o 2 = some [x, y] := by
  unfold load1 at h1 h2
  cases hb : s.get b with
  | none => rw [hb] at h1; cases h1
  | some blk =>
    rw [hb] at h1 h2
    cases blk <;> try (cases h1; done)
    rename_i own cs
    simp only at h1 h2
    have l2 := (List.getElem?_eq_some_iff.1 h2).1
    rw [loadN_own hb (by omega)]
    have e1 := List.drop_eq_getElem_cons (show o < cs.length by omega)
    have e2 := List.drop_eq_getElem_cons l2
    rw [e1, e2]
    rw [List.getElem?_eq_getElem (show o < cs.length by omega)] at h1
    rw [List.getElem?_eq_getElem l2] at h2
    cases h1; cases h2
    rfl
end Go.Vm
