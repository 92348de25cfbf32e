/- Tables of resolved functions. -/
import Derived.Test.YtjandhdjjbfgcaaDoorV17
import Derived.KernelRfl
set_option linter.unusedSectionVars false
set_option linter.unusedSimpArgs false
set_option linter.unusedVariables false
/- Tables of resolved functions. -/
namespace Go.Vm

/-- The ranges over functions of a body: what they assign, and their bodies. -/
def rangesOf : Code → List (Code × Code)
  | .seq a b => rangesOf a ++ rangesOf b
  | .cond _ a b => rangesOf a ++ rangesOf b
  | .block _ c => rangesOf c
  | .loop c => rangesOf c
  | .scope c => rangesOf c
  | .rangeFunc _ _ a b => (a, b) :: (rangesOf a ++ rangesOf b)
  | _ => []
def rA (fn : Func) (k : Nat) : Code := ((rangesOf (fn.body.getD .skip)).getD k (.skip, .skip)).1
def rB (fn : Func) (k : Nat) : Code := ((rangesOf (fn.body.getD .skip)).getD k (.skip, .skip)).2

def FnOK (P : Program) (f : FuncId) (vf : VFn) : Prop := (∃ fn, P.funcs[f]? = some fn ∧ cfn P fn = some vf) ∧ ∀ (args' : Array Value) (w : World), (callFunc f args').run P w = .ok (.enter f args') w

theorem fnOK {P : Program} {f : FuncId} {fn : Func} {vf : VFn} (h1 : P.funcs[f]? = some fn) (h2 : cfn P fn = some vf) (h3 : (fn.name == "runtime.NumGoroutine") = false) : FnOK P f vf := by
  refine ⟨⟨fn, h1, h2⟩, fun args w => ?_⟩
  unfold cfn at h2
  split at h2
  · rename_i c hb
    have h3' : fn.name ≠ "runtime.NumGoroutine" := by simpa using h3
    simp [callFunc, h1, h3', hb, mark]
  · cases h2

def trOf (l : List (FuncId × VFn)) : Tr VFn := l.foldl (fun t x => t.set x.1 x.2) .nil

theorem trOf_mem (l : List (FuncId × VFn)) : ∀ (t : Tr VFn) (f : FuncId) (vf : VFn), (l.foldl (fun t x => t.set x.1 x.2) t).get f = some vf → t.get f = some vf ∨ (f, vf) ∈ l := by
  induction l with
  | nil => intro t f vf h; exact .inl h
  | cons x l ih =>
    intro t f vf h
    rcases ih _ f vf h with h | h
    · rw [Tr.get_set] at h
      split at h
      · rename_i e; cases h; exact .inr (by rw [e]; exact List.mem_cons_self ..)
      · exact .inl h
    · exact .inr (List.mem_cons_of_mem _ h)

theorem tblOK {P : Program} {l : List (FuncId × VFn)} (h : ∀ x ∈ l, FnOK P x.1 x.2) : TblOK P (trOf l).get := by
  intro f vf hf
  rcases trOf_mem l .nil f vf hf with h' | h'
  · cases h'
  · exact h _ h'
end Go.Vm
